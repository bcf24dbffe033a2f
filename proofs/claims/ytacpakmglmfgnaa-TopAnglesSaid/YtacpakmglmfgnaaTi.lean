/-
  The walk of order.
-/
import Derived.Test.YtacpakmglmfgnaaTh
import Derived.Deep.RegionHeld3
import Derived.WalkMore
namespace Go.Proofs.Ytacpakmglmfgnaa
open Go.RowKit

theorem phiF_append : ∀ a b : List (Nat × Nat), phiF (a ++ b) = phiF a * phiF b := by
  intro a
  induction a with
  | nil => intro b; simp [phiF]
  | cons x r ih => intro b; simp only [List.cons_append, phiF, ih]; ac_rfl
theorem prodF_append : ∀ a b : List (Nat × Nat), prodF (a ++ b) = prodF a * prodF b := by
  intro a
  induction a with
  | nil => intro b; simp [prodF]
  | cons x r ih => intro b; simp only [List.cons_append, prodF, ih]; ac_rfl
theorem phiF_take (L : List (Nat × Nat)) (i : Nat) (h : i < L.length) : phiF (L.take (i + 1)) = phiF (L.take i) * (L[i].1 ^ (L[i].2 - 1) * (L[i].1 - 1)) := by
  rw [List.take_succ_eq_append_getElem h, phiF_append]; simp [phiF]
theorem good_take : ∀ (L : List (Nat × Nat)) (i : Nat), GoodF L → GoodF (L.take i) := by
  intro L
  induction L with
  | nil => intro i h; simpa using h
  | cons x r ih =>
    intro i h
    cases i with
    | zero => exact trivial
    | succ i =>
      obtain ⟨h1, h2, h3, h4⟩ := h
      refine ⟨h1, h2, ?_, ih i h4⟩
      have hd : prodF (r.take i) ∣ prodF r := by
        conv => rhs; rw [← List.take_append_drop i r, prodF_append]
        exact Nat.dvd_mul_right _ _
      exact Nat.Coprime.coprime_dvd_right hd h3
theorem phiF_le : ∀ L : List (Nat × Nat), GoodF L → phiF L ≤ prodF L := by
  intro L
  induction L with
  | nil => intro _; exact Nat.le_refl _
  | cons x r ih =>
    rintro ⟨h1, h2, h3, h4⟩
    refine Nat.mul_le_mul ?_ (ih h4)
    obtain ⟨c, hc⟩ : ∃ c, x.2 = c + 1 := ⟨x.2 - 1, by omega⟩
    rw [hc, Nat.add_sub_cancel, Nat.pow_succ]
    exact Nat.mul_le_mul_left _ (Nat.sub_le _ _)
theorem prodF_take_le (L : List (Nat × Nat)) (i : Nat) (hp : 0 < prodF L) : prodF (L.take i) ≤ prodF L := by
  refine Nat.le_of_dvd hp ?_
  conv => rhs; rw [← List.take_append_drop i L, prodF_append]
  exact Nat.dvd_mul_right _ _
/-- What is known of one prime of a number up to 3000. -/
theorem facs_mem {N : Nat} (hN : 0 < N) (hN2 : N ≤ 3000) (i : Nat) (h : i < (facs N).length) : 2 ≤ (facs N)[i].1 ∧ (facs N)[i].1 ≤ 3000 ∧ 0 < (facs N)[i].2 ∧ (facs N)[i].2 ≤ 3000 ∧ (facs N)[i].1 ^ ((facs N)[i].2 - 1) ≤ 3000 := by
  obtain ⟨f1, f2⟩ := facs_spec N hN
  have hm := List.getElem_mem h
  have hpr := (mem_pr f2 _ hm).1
  have hc := mem_pos f2 _ hm
  have hpw := mem_pow_dvd _ hm
  rw [f1] at hpw
  have hle := Nat.le_of_dvd hN hpw
  generalize (facs N)[i] = x at *
  have h1 : x.1 ^ 1 ≤ x.1 ^ x.2 := Nat.pow_le_pow_right (by omega) hc
  have h2 : x.1 ^ (x.2 - 1) ≤ x.1 ^ x.2 := Nat.pow_le_pow_right (by omega) (by omega)
  have h3 : x.2 < 2 ^ x.2 := Nat.lt_two_pow_self
  have h4 : 2 ^ x.2 ≤ x.1 ^ x.2 := Nat.pow_le_pow_left hpr _
  rw [Nat.pow_one] at h1
  omega
theorem phi_bd {N : Nat} (hN : 0 < N) (hN2 : N ≤ 3000) (i : Nat) : 0 < phiF ((facs N).take i) ∧ phiF ((facs N).take i) ≤ 3000 := by
  obtain ⟨f1, f2⟩ := facs_spec N hN
  have h1 := phiF_le _ (good_take _ i f2)
  have h2 := prodF_take_le _ i (by rw [f1]; exact hN)
  have h3 := phiF_pos _ (good_take _ i f2)
  omega
theorem wri (x : Nat) (h : x ≤ 3000 * 3000) : IntKind.i64.wrap (x : Int) = (x : Int) := IntWalk.i64_in _ (by omega)
theorem wru (x : Nat) (h : x ≤ 3000 * 3000) : IntKind.u64.wrap (x : Int) = (x : Int) := by rw [IntKind.wrap_u64]; omega
theorem wr64 (x : Nat) (h : x ≤ 3000 * 3000) : wrap64 (x : Int) = (x : Int) := by unfold wrap64; omega
/-- n is the product so far. -/
structure PhiAt (N i n : Nat) : Prop where
  le : i ≤ (facs N).length
  eq : n = phiF ((facs N).take i)
theorem PhiAt.bd {N i n : Nat} (hN : 0 < N) (hN2 : N ≤ 3000) (h : PhiAt N i n) : 0 < n ∧ n ≤ 3000 := by rw [h.eq]; exact phi_bd hN hN2 i
theorem PhiAt.step {N i n : Nat} (h : PhiAt N i n) (hi : i < (facs N).length) : PhiAt N (i + 1) (n * ((facs N)[i].1 ^ ((facs N)[i].2 - 1) * ((facs N)[i].1 - 1))) :=
  ⟨hi, by rw [phiF_take _ _ hi, h.eq]⟩
theorem down_succ (d den p c l : Nat) : down d den p (c + 1) l = if d ^ (l / p) % den ≠ 1 then l else down d den p c (l / p) := rfl
theorem down_zero (d den p l : Nat) : down d den p 0 l = l := rfl
theorem BoxAt.drewN {wr w : World} {p c : Nat} (h : BoxAt wr p c w) (n : Nat) : BoxAt wr p c (w.drewN n) := ⟨h.a, h.b, h.f, h.lt, below_drewN h.B n⟩
set_option maxRecDepth 20000 in
theorem order_any (den d : Nat) (hden : 0 < den) (hden2 : den ≤ 3000) (hd : 0 < d) (hd2 : d ≤ 64) (w : World) :
    Calls Try.prog 26 #[.int .u64 (den : Nat), .int .u64 (d : Nat)] w fun e w' => e = .returned (.int .i64 (ordA den d : Nat)) ∧ Below w.heap.size w w' := by
  have HF := Lib.hid fun W => factors_any den hden hden2 W
  have hne := Lib.hid (phi_bd hden hden2)
  by_cases h1 : den = 1
  · have e1 : ordA den d = 1 := by unfold ordA; rw [if_pos h1]
    rw [e1]
    subst h1
    go_enter Try.func26, Try.ntmps26
    go_wp2
    go_step3
    go_wp2
    rw [Exit.noGoto_ret]
    go_ret
    exact ⟨rfl, Below.refl _ _⟩
  · have h1z : ((den : Int) == 1) = false := by rw [beq_eq_false_iff_ne]; omega
    have h1n : ¬ (den : Int) = 1 := by omega
    have HO : Hid (ordA den d = downs d den (facs (phiF (facs den))) (phiF (facs den))) := by show _ = _; unfold ordA; rw [if_neg h1]
    clear h1
    go_enter Try.func26, Try.ntmps26
    go_wp2
    go_step3
    go_wp2_with (first | (go_at_call 44; refine (HF.out _).mono ?_; rintro e w1 ⟨ao, cap, rfl, hr, hl, B1⟩; have HR := Lib.hid hr; clear hr))
    go_loopw [5, 16] (fun vn vi wr => ∃ i n : Nat, n ≤ 3000 ∧ vn = .int .i64 (n : Int) ∧ vi = .int .i64 (i : Int) ∧ Hid (PhiAt den i n) ∧ Hid (Below w1.heap.size w1 wr)) (fun _ vi _ => (facs den).length - (intOf vi).toNat)
    case atStart => exact ⟨0, 1, by omega, rfl, rfl, ⟨Nat.zero_le _, rfl⟩, Below.refl _ _⟩
    case round =>
      obtain ⟨i, n, hn, rfl, rfl, HP, HB⟩ := hrel
      by_cases hi : i < (facs den).length
      · obtain ⟨b, rfl, hb, hc1, hc2⟩ := ((HR.out.below HB.out).cell i hi)
        have hcap := HR.out.le
        have hcm := HR.out.max
        unfold maxLen at hcm
        have HS := Lib.hid (HP.out.step hi)
        have hms := facs_mem hden hden2 i hi
        generalize (facs den)[i].1 = p at *
        generalize (facs den)[i].2 = c at *
        rw [Nat.mul_comm] at hc1 hc2
        obtain ⟨m1, m2, m3, m4, m5⟩ := hms
        obtain ⟨k, hk⟩ : ∃ k, c = k + 1 := ⟨c - 1, by omega⟩
        obtain ⟨r, hr⟩ : ∃ r, p = r + 1 := ⟨p - 1, by omega⟩
        have hkl : k ≤ 3000 * 3000 := by omega
        have hrl : r ≤ 3000 * 3000 := by omega
        have HT := Lib.hid fun W => times_any p (c : Int) k (by omega) (by rw [hk, Nat.add_sub_cancel] at m5; omega) (by omega) W
        have hnb := HS.out.bd hden hden2
        rw [hk, Nat.add_sub_cancel, hr, Nat.add_sub_cancel] at HS hnb
        rw [hk, Nat.add_sub_cancel, hr] at m5
        rw [hr, hk] at HT
        generalize (r + 1) ^ k = q at *
        have hqr : q * r ≤ 3000 * 3000 := Nat.mul_le_mul m5 (by omega)
        obtain ⟨s, hs⟩ : ∃ s, q * r = s := ⟨_, rfl⟩
        rw [hs] at HS hnb hqr
        obtain ⟨n', hn'⟩ : ∃ n', n * s = n' := ⟨_, rfl⟩
        rw [hn'] at HS hnb
        have e0 := wr64 k hkl
        have e3 : (q : Int) * r = (s : Int) := by rw [← hs]; simp
        have e4 : (n : Int) * s = (n' : Int) := by rw [← hn']; simp
        have v1 := wri s hqr
        have v2 := wri n' (Nat.le_trans hnb.2 (by omega))
        have v3 := wri k hkl
        have v4 := wru r hrl
        have v5 := wri q (Nat.le_trans m5 (by omega))
        have v6 := wri r hrl
        subst hk hr
        clear hs hn'
        go_wp2
        have x1 := new0 wr 89 (.int .u64 ((r : Int) + 1)) (.int .i64 ((k : Int) + 1))
        have x2 := new1 wr 89 (.int .u64 ((r : Int) + 1)) (.int .i64 ((k : Int) + 1))
        have BW := Lib.hid (alloc_below wr (.cells #[.int .u64 ((r : Int) + 1), .int .i64 ((k : Int) + 1)] 89))
        have hwl : wr.heap.size < (wr.alloc (.cells #[.int .u64 ((r : Int) + 1), .int .i64 ((k : Int) + 1)] 89)).heap.size := by simp
        generalize wr.alloc (.cells #[.int .u64 ((r : Int) + 1), .int .i64 ((k : Int) + 1)] 89) = wa at *
        clear hc1 hc2 HR HF HO hcap hcm HP hb hne h1z h1n
        go_region_held3 (fun W => W.cell? ⟨wr.heap.size, 0, none⟩ = some (.int .u64 ((r : Int) + 1)) ∧ W.cell? ⟨wr.heap.size, 1, none⟩ = some (.int .i64 ((k : Int) + 1)) ∧ Below wa.heap.size wa W) (exact ⟨by first | assumption | exact x1 | exact (B5.cell (p := ⟨wr.heap.size, 0, none⟩) (by assumption)).trans (by assumption) | exact (B5.cell (p := ⟨wr.heap.size, 0, none⟩) hwl).trans x1, by first | assumption | exact x2 | exact (B5.cell (p := ⟨wr.heap.size, 1, none⟩) hwl).trans x2, by first | assumption | exact Below.refl _ _ | exact (Below.refl _ _).drew | exact ((Below.refl wa.heap.size wa).drew).trans B5⟩) (first | (go_at_call 45; refine (HT.out _).mono ?_; rintro e w5 ⟨rfl, B5⟩))
        have BF := Lib.hid ((HB.out.on BW.out).on (((Below.refl wa.heap.size wa).drew).trans B5))
        clear B5 x1 x2 BW hwl HB e0 e3 e4 v1 v2 v3 v4 v5 v6
        go_wp2
        go_roundw
        case rel => exact ⟨i + 1, n', by omega, rfl, by go_num, HS, BF⟩
        case measure => simp [intOf]; omega
      · have hie : i = (facs den).length := by have := HP.out.le; omega
        subst hie
        have hphi : n = phiF (facs den) := by have := HP.out.eq; rwa [List.take_length] at this
        have hbd := HP.out.bd hden hden2
        have HO2 : Hid (ordA den d = downs d den (facs n) n) := by rw [hphi]; exact HO.out
        clear hphi HO HP
        have HF2 := Lib.hid fun W => factors_any n hbd.1 hbd.2 W
        go_wp2
        go_step3
        go_wp2_with (first | (go_at_call 44; refine (HF2.out _).mono ?_; rintro e w2 ⟨ao2, cap2, rfl, hr2, hl2, B2⟩; have HR2 := Lib.hid hr2; clear hr2))
        have BF := Lib.hid ((B1.on HB.out).on B2)
        clear HB HF HF2 HR
        go_loopw [8, 40] (fun vl vi wr => ∃ i l : Nat, l ≤ 3000 ∧ vl = .int .u64 (l : Int) ∧ vi = .int .i64 (i : Int) ∧ i ≤ (facs n).length ∧ Hid (downs d den ((facs n).drop i) l = ordA den d) ∧ Hid (Below w2.heap.size w2 wr)) (fun _ vi _ => (facs n).length - (intOf vi).toNat)
        case atStart => exact ⟨0, n, hbd.2, rfl, rfl, Nat.zero_le _, by show _ = _; rw [List.drop_zero]; exact HO2.out.symm, Below.refl _ _⟩
        case round =>
          obtain ⟨i, l, hl3, rfl, rfl, hil, HD, HB2⟩ := hrel
          by_cases hi : i < (facs n).length
          · obtain ⟨b, rfl, hb, hc1, hc2⟩ := ((HR2.out.below HB2.out).cell i hi)
            have hcap := HR2.out.le
            have hcm := HR2.out.max
            unfold maxLen at hcm
            obtain ⟨m1, m2, m3, m4, m5⟩ := facs_mem hbd.1 hbd.2 i hi
            have HD2 : Hid (downs d den ((facs n).drop (i + 1)) (down d den (facs n)[i].1 (facs n)[i].2 l) = ordA den d) := by
              have := HD.out
              rw [List.drop_eq_getElem_cons hi] at this
              exact this
            generalize (facs n)[i].1 = p at *
            generalize (facs n)[i].2 = c at *
            rw [Nat.mul_comm] at hc1 hc2
            clear HD
            go_wp2
            have HX : Hid (BoxAt wr p c (wr.alloc (.cells #[.int .u64 (p : Nat), .int .i64 (c : Nat)] 89))) := ⟨new0 _ _ _ _, new1 _ _ _ _, fun i => newf _ _ _ _ _ rfl, by simp, alloc_below _ _⟩
            clear hc1 hc2 hb hcap hcm
            go_loopw [8, 46] (fun vl vj wi => ∃ j l' : Nat, l' ≤ 3000 ∧ j ≤ c ∧ vl = .int .u64 (l' : Int) ∧ vj = .int .i64 (j : Int) ∧ Hid (down d den p (c - j) l' = down d den p c l) ∧ Hid (BoxAt wr p c wi)) (fun _ vj _ => c - (intOf vj).toNat)
            case atStart => exact ⟨0, l, hl3, Nat.zero_le _, rfl, rfl, rfl, HX⟩
            case round =>
              obtain ⟨j, l', hl4, hjc, rfl, rfl, HDN, HY⟩ := hrel
              clear HX
              by_cases hj : j < c
              · obtain ⟨k, hk⟩ : ∃ k, c - j = k + 1 := ⟨c - j - 1, by omega⟩
                have hpz : ((p : Int) == 0) = false := by rw [beq_eq_false_iff_ne]; omega
                have hpz2 : ¬ (p : Int) = 0 := by omega
                obtain ⟨q, hq⟩ : ∃ q, l' / p = q := ⟨_, rfl⟩
                have hq2 : (l' : Int) / p = q := by rw [← hq]; rfl
                have hq3 : q ≤ 3000 := by rw [← hq]; exact Nat.le_trans (Nat.div_le_self _ _) hl4
                have HPW := Lib.hid fun W => power_any d q den (by omega) (by omega) hden (by omega) W
                have hdn := HDN.out
                rw [hk] at hdn
                rw [down_succ, hq] at hdn
                have hxa := HY.out.a
                have hxl := HY.out.lt
                have hyl : d ^ q % den < den := Nat.mod_lt _ hden
                generalize d ^ q % den = y at *
                by_cases hy : y = 1
                · subst hy
                  rw [if_neg (by omega)] at hdn
                  have HDN2 : Hid (down d den p (c - (j + 1)) q = down d den p c l) := by
                    show _ = _; rw [show c - (j + 1) = k by omega]; exact hdn
                  clear hdn HDN hk hq hyl
                  go_wp2_with (first | (go_at_call 19; refine (HPW.out _).mono ?_; rintro e w4 ⟨n4, rfl, rfl⟩))
                  go_roundw
                  case rel => exact ⟨j + 1, q, hq3, hj, rfl, by go_num, HDN2, HY.out.drewN _⟩
                  case measure => simp [intOf]; omega
                · rw [if_pos hy] at hdn
                  have hyz : ((y : Int) == 1) = false := by rw [beq_eq_false_iff_ne]; omega
                  have hyn : ¬ (y : Int) = 1 := by omega
                  rw [← hdn] at HD2
                  have HBN := Lib.hid (HB2.out.trans (HY.out.B.mono HB2.out.size))
                  clear hdn HDN hk hq hy HY
                  go_wp2_with (first | (go_at_call 19; refine (HPW.out _).mono ?_; rintro e w4 ⟨n4, rfl, rfl⟩))
                  go_roundw
                  case rel => exact ⟨i + 1, l', hl4, rfl, by go_num, hi, HD2, below_drewN HBN.out _⟩
                  case measure => simp [intOf]; omega
              · have hje : j = c := by omega
                subst hje
                have hdn := HDN.out
                rw [Nat.sub_self, down_zero] at hdn
                rw [← hdn] at HD2
                have HBN := Lib.hid (HB2.out.trans (HY.out.B.mono HB2.out.size))
                clear hdn HDN HY
                go_wp2
                go_roundw
                case rel => exact ⟨i + 1, l', hl4, rfl, by go_num, hi, HD2, HBN.out⟩
                case measure => simp [intOf]; omega
          · have hie : i = (facs n).length := by omega
            subst hie
            have hd3 := HD.out
            rw [List.drop_length] at hd3
            have HD4 : Hid (l = ordA den d) := hd3
            have HBN := Lib.hid (BF.out.trans (HB2.out.mono BF.out.size))
            clear hd3 HD HB2
            go_wp2
            rw [Exit.noGoto_ret]
            go_ret
            exact ⟨by rw [← HD4.out]; rfl, HBN.out⟩
end Go.Proofs.Ytacpakmglmfgnaa
