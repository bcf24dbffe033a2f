/-
  The walks of the reference's two and Shift.
-/
import Derived.Test.YtfhkpkebiinglaaShf
namespace Go.Proofs.Ytfhkpkebiinglaa
open Go.RowKit

theorem two_val (k s : Nat) : dval 256 (List.replicate k 0 ++ [2 ^ s]) = 2 ^ (8 * k + s) := by
  rw [dval_pre, Nat.pow_add, two_pow_8]; simp [dval]
theorem set_last (k d : Nat) : (List.replicate (k + 1) 0).set k d = List.replicate k 0 ++ [d] := by
  rw [List.replicate_succ']
  have := List.set_append_right (s := List.replicate k 0) (t := [0]) k d (by simp)
  rw [this]; simp
set_option maxRecDepth 20000 in
theorem two_any (n : Nat) (hn : n ≤ 131072) (w : World) :
    Calls Try.prog 70 #[.int .i64 (n : Int)] w fun e w' => e = .returned (.string (enc (2 ^ n))) ∧ Below w.heap.size w w' := by
  obtain ⟨s, hs⟩ : ∃ s, s = n % 8 := ⟨_, rfl⟩
  obtain ⟨k, hk⟩ : ∃ k, k = n / 8 := ⟨_, rfl⟩
  have e1 : (n : Int) / 8 = (k : Int) := by omega
  have e2 : (n : Int) % 8 = (s : Int) := by omega
  have HN : Hid (n = 8 * k + s) := by show _ = _; omega
  have hs8 : s < 8 := by omega
  have hk2 : k ≤ 16384 := by omega
  have hp : 2 ^ s ≤ 128 := Nat.pow_le_pow_right (n := 2) (i := s) (j := 7) (by omega) (by omega)
  have hpw : IntKind.i64.wrap (1 * (2 : Int) ^ s) = ((2 ^ s : Nat) : Int) := by
    have : (2 : Int) ^ s = ((2 ^ s : Nat) : Int) := by push_cast; rfl
    rw [Int.one_mul, this, IntKind.wrap_i64]
    clear this
    generalize 2 ^ s = p at *
    omega
  have hpw2 : IntKind.i64.wrap ((2 : Int) ^ s) = ((2 ^ s : Nat) : Int) := by rw [← hpw, Int.one_mul]
  have HV := Lib.hid (two_val k s)
  rw [← HN.out] at HV
  have HST := Lib.hid (set_last k (2 ^ s))
  have hp1 : 0 < 2 ^ s := Nat.two_pow_pos s
  have HL : Hid (∀ d ∈ List.replicate k 0 ++ [2 ^ s], d < 256) := snoc_lt (fun d hd => by rw [List.eq_of_mem_replicate hd]; omega) (by omega)
  generalize 2 ^ n = N at *
  generalize 2 ^ s = p at *
  clear hs hk
  go_enter Try.func70, Try.ntmps70
  go_wp2_with (first | (at_make; refine wpList_make_ap rfl _ _ 84 rfl Try.underlying84 info3 (by omega) w (Below.refl _ _) (k + 1) (k + 1) _ _ .i64 .i64 rfl rfl (by go_num) (by go_num) (by omega) (by omega) ?_; intro w7 hap7 hs7 hb7; have HO : Hid (Own w 3 .i64 w.heap.size (List.replicate (k + 1) 0) w7) := (Own.of_ap hap7 (by simp)); clear hap7 hs7 hb7; have hcell := HO.out.cell k (by simp); rw [List.getElem_replicate] at hcell; have hfz := HO.out.frozen k; have HO2 := Lib.hid (HO.out.store k p); rw [HST.out] at HO2; have HM := Lib.hid (made_any (some ⟨w.heap.size, 0, none⟩) (k + 1) (List.replicate k 0 ++ [p]).length (List.replicate k 0 ++ [p]) (by simp) HL.out (by omega) _ HO2.out.row); rw [HV.out] at HM; have hlen : (List.replicate k 0 ++ [p]).length = k + 1 := (by simp); rw [hlen] at HM; clear hlen) | (go_at_call 67; refine HM.out.mono ?_; rintro e w5 ⟨rfl, B5⟩))
  go_ret
  exact ⟨rfl, HO2.out.below.on B5⟩

/-- The reference's Mul at any two bytes. -/
theorem rMul_gen (a b : ByteArray) (ha : a.size ≤ 20000) (hb : b.size ≤ 20000) (w : World) :
    Calls Try.prog 22 #[.string a, .string b] w fun e w' => e = .returned (if 16385 < a.size + b.size then .tuple #[.string ⟨#[]⟩, .int .i64 4] else endN (bval a * bval b)) ∧ Below w.heap.size w w' := by
  by_cases hg : 16385 < a.size + b.size
  · rw [if_pos hg]
    have hgz : (16385 : Int) < (a.size : Int) + b.size := by omega
    go_enter Try.func22, Try.ntmps22
    go_wp2
    go_ret2
    exact ⟨rfl, Below.refl _ _⟩
  · rw [if_neg hg]
    have HT := Lib.hid fun W => times_any a b (by omega) (by omega) W
    have HE := Lib.hid fun W => ended_enc (bval a * bval b) (by
      have h1 := bval_lt a
      have h2 := bval_lt b
      refine Nat.le_trans ((digs_len (by omega) _ (a.size + b.size)).2 ?_) (by omega)
      rw [Nat.pow_add]
      exact Nat.mul_lt_mul'' h1 h2) W
    go_enter Try.func22, Try.ntmps22
    go_wp2_with (first | (go_at_call 64; refine (HT.out _).mono ?_; rintro e w1 ⟨rfl, B1⟩) | (go_at_call 63; refine (HE.out _).mono ?_; rintro e w2 ⟨rfl, rfl⟩; unfold endN))
    go_ret2
    exact ⟨rfl, B1⟩
theorem two_len (n : Nat) : (digs 256 (2 ^ n)).length = n / 8 + 1 := by
  have h1 : (digs 256 (2 ^ n)).length ≤ n / 8 + 1 := (digs_len (by omega) _ _).2 (by
    rw [← two_pow_8]; exact Nat.pow_lt_pow_right (by omega) (by omega))
  have h2 : ¬ (digs 256 (2 ^ n)).length ≤ n / 8 := fun h => by
    have := (digs_len (B := 256) (by omega) _ _).1 h
    rw [← two_pow_8] at this
    have := (Nat.pow_lt_pow_iff_right (a := 2) (by omega)).1 this
    omega
  omega
/-- Multiplied by the power of two: what Shift answers. -/
theorem mul_two (a : ByteArray) (ha : Ok a) (h0 : a.size ≠ 0) (n : Nat) (hn : n ≤ 131072) (w : World) :
    Calls Try.prog 22 #[.string a, .string (enc (2 ^ n))] w fun e w' => e = .returned (endN (bval a * 2 ^ n)) ∧ Below w.heap.size w w' := by
  have h1 := ha.1
  have hs := two_len n
  refine (rMul_gen a (enc (2 ^ n)) (by omega) (by rw [enc_size]; omega) w).mono ?_
  rintro e w' ⟨rfl, hb⟩
  refine ⟨?_, hb⟩
  rw [bval_enc, enc_size, hs]
  split
  · rename_i hg
    have hx0 : bval a ≠ 0 := fun e => h0 ((ok_zero a ha).1 e)
    have hlen : 16384 < (digs 256 (bval a * 2 ^ n)).length := by
      have h3 : ¬ (digs 256 (bval a * 2 ^ n)).length ≤ a.size - 1 + n / 8 := fun h => by
        have h4 := (digs_len (B := 256) (by omega) _ _).1 h
        have h5 : 256 ^ (a.size - 1) ≤ bval a := Nat.le_of_not_lt fun h => by
          have := (digs_len (B := 256) (by omega) (bval a) (a.size - 1)).2 h
          rw [ok_len a ha] at this; omega
        have h6 : 256 ^ (n / 8) ≤ 2 ^ n := by rw [← two_pow_8]; exact Nat.pow_le_pow_right (by omega) (by omega)
        have h7 := Nat.mul_le_mul h5 h6
        rw [← Nat.pow_add] at h7
        omega
      omega
    unfold endN endS endE
    rw [if_pos hlen, if_pos hlen]
  · rfl

set_option maxRecDepth 20000 in
theorem rShift_any (a : ByteArray) (hok : Ok a) (n : Int) (hn : -9223372036854775808 ≤ n ∧ n < 9223372036854775808) (w : World) :
    Calls Try.prog 29 #[.string a, .int .i64 n] w fun e w' => e = .returned (shN (bval a) n) ∧ Below w.heap.size w w' := by
  obtain ⟨hn1, hn2⟩ := hn
  have hz : a.toList.isEmpty = decide (a.size = 0) := isEmpty_size a
  have h0 := ok_zero a hok
  have ha1 := hok.1
  by_cases ha0 : a.size = 0
  · have hR : Hid (shN (bval a) n = .tuple #[.string a, .int .i64 0]) := by
      show _ = _
      unfold shN
      rw [if_pos (h0.2 ha0), (size_ne a).2 ha0]
    have hz2 : a.toList.isEmpty = true := by rw [hz]; simp [ha0]
    have hz3 : a.toList = [] := (toList_nil a).2 ha0
    clear hz h0 hok hn1 hn2
    go_enter Try.func29, Try.ntmps29
    go_wp2
    go_ret2
    exact ⟨by rw [hR.out]; rfl, Below.refl _ _⟩
  · have hz2 : a.toList.isEmpty = false := by rw [hz]; simp [ha0]
    have hz3 : ¬ a.toList = [] := fun h => ha0 ((toList_nil a).1 h)
    have hx0 : bval a ≠ 0 := fun e => ha0 (h0.1 e)
    by_cases hn0 : n = 0
    · subst hn0
      have hR : Hid (shN (bval a) 0 = .tuple #[.string a, .int .i64 0]) := by
        show _ = _
        unfold shN
        rw [if_neg hx0, if_neg (by omega), if_neg (by omega)]
        have : bval a * 2 ^ (0 : Int).toNat = bval a := by simp
        rw [this, (Sm.of_ok hok).endN, enc_bval a hok]
      clear hz h0 hok hn1 hn2 hx0
      go_enter Try.func29, Try.ntmps29
      go_wp2
      go_ret2
      exact ⟨by rw [hR.out]; rfl, Below.refl _ _⟩
    · have hne0 : (n == 0) = false := by rw [beq_eq_false_iff_ne]; exact hn0
      by_cases hbig : 131072 < n
      · have hR : Hid (shN (bval a) n = .tuple #[.string ⟨#[]⟩, .int .i64 4]) := by show _ = _; unfold shN; rw [if_neg hx0, if_pos hbig]
        have hpos : 0 < n := by omega
        clear hz h0 hok hn1 hn2 hx0 hn0
        go_enter Try.func29, Try.ntmps29
        go_wp2
        go_ret2
        exact ⟨by rw [hR.out]; rfl, Below.refl _ _⟩
      · by_cases hpos : 0 < n
        · obtain ⟨m, rfl⟩ : ∃ m : Nat, n = (m : Int) := ⟨n.toNat, by omega⟩
          have hR : Hid (shN (bval a) (m : Int) = endN (bval a * 2 ^ m)) := by
            show _ = _
            unfold shN
            rw [if_neg hx0, if_neg hbig, if_neg (by omega), Int.toNat_natCast]
          have hm3 : m ≤ 131072 := by omega
          have HT := Lib.hid fun W => two_any m hm3 W
          have HM := Lib.hid fun W => mul_two a hok ha0 m hm3 W
          clear hz h0 hok hn1 hn2 hx0 hn0
          go_enter Try.func29, Try.ntmps29
          go_wp2_with (first | (go_at_call 70; refine (HT.out _).mono ?_; rintro e w1 ⟨rfl, B1⟩) | (go_at_call 22; refine (HM.out _).mono ?_; rintro e w2 ⟨rfl, B2⟩; unfold endN))
          go_ret2
          exact ⟨by rw [hR.out]; rfl, B1.on B2⟩
        · by_cases hfar : n < -131072
          · have hR : Hid (shN (bval a) n = .tuple #[.string ⟨#[]⟩, .int .i64 0]) := by
              show _ = _
              unfold shN
              rw [if_neg hx0, if_neg hbig, if_pos (by omega), shift_gone hok (by omega)]; rfl
            clear hz h0 hok hn1 hn2 hx0 hn0
            go_enter Try.func29, Try.ntmps29
            go_wp2
            go_ret2
            exact ⟨by rw [hR.out]; rfl, Below.refl _ _⟩
          · obtain ⟨m, hm⟩ : ∃ m : Nat, -n = (m : Int) := ⟨(-n).toNat, by omega⟩
            have hmn : n = -(m : Int) := by omega
            subst hmn
            have hR : Hid (shN (bval a) (-(m : Int)) = .tuple #[.string (enc (bval a / 2 ^ m)), .int .i64 0]) := by
              show _ = _
              unfold shN
              rw [if_neg hx0, if_neg hbig, if_pos (by omega)]
              have : (- -(m : Int)).toNat = m := by omega
              rw [this]
            have hm3 : m ≤ 131072 := by omega
            obtain ⟨s, hs⟩ : ∃ s, s = m % 8 := ⟨_, rfl⟩
            obtain ⟨k, hk⟩ : ∃ k, k = m / 8 := ⟨_, rfl⟩
            have e0 : -(-(m : Int)) = (m : Int) := by omega
            have e1 : (m : Int) / 8 = (k : Int) := by omega
            have e2 : (m : Int) % 8 = (s : Int) := by omega
            have HP : Hid (2 ^ m = 256 ^ k * 2 ^ s) := by
              show _ = _
              rw [← two_pow_8, ← Nat.pow_add]; congr 1; omega
            have hs8 : s < 8 := by omega
            have hk8 : k ≤ 16384 := by omega
            have HS2 : Hid (256 = 2 ^ s * 2 ^ (8 - s)) := by
              show _ = _
              rw [← Nat.pow_add, show s + (8 - s) = 8 by omega]
            have HD := Lib.hid fun W => digits_any a (by omega) W
            have HXL := Lib.hid (bytesR_lt a)
            have HX := Lib.hid (bytesR_len a)
            have HBV : Hid (bval a = dval 256 (bytesR a)) := rfl
            rw [HBV.out] at hR ⊢
            have hne1 : (-(m : Int) == 0) = false := hne0
            have hmpos : 0 < m := by omega
            clear hz h0 hok hn1 hn2 hx0 hn0 hs hk hne0 hm HBV
            generalize bytesR a = X at *
            generalize a.size = nx at *
            go_enter Try.func29, Try.ntmps29
            go_wp2_with (first | (go_at_call 71; refine (HD.out _).mono ?_; rintro e w2 ⟨aa, na, ca, rfl, EA, RA, B2⟩; obtain rfl : nx = na := by rw [← HX.out, EA.out]))
            have HB2 := Lib.hid B2
            clear B2 EA
            go_loopw [7, 8] (fun vo vi wr => ∃ i O, i ≤ max k nx ∧ vi = .int .i64 ((i : Nat) : Int) ∧ Hid (RightAt 256 X k (2 ^ s) i O) ∧ Hid (∀ d ∈ O, d < 256) ∧ Hid (Ap w2 3 .i64 vo O wr)) (fun _ vi _ => nx - (intOf vi).toNat)
            case atStart => exact ⟨k, [], by omega, rfl, RightAt.start _ X k _, (fun d h => by cases h), Ap.nil _ _ _⟩
            case round =>
              obtain ⟨i, O, hi, rfl, HMA, HOL, HW⟩ := hrel
              have hik := HMA.out.from_
              have hlen : O.length ≤ 10000000 := by rw [HMA.out.len]; omega
              have HLN := Lib.hid hlen
              clear hlen
              by_cases hlt : i < nx
              · have hxl : i < X.length := by rw [HX.out]; exact hlt
                have HST := Lib.hid (HMA.out.step HS2.out HXL.out)
                have hy := getD_small HXL.out (show 0 < 256 by omega) (i + 1)
                have hx := HXL.out _ (List.getElem_mem hxl)
                rw [getD_lt hxl] at HST
                have RA2 := HRow RA.out HW.out.below
                obtain ⟨ba, rfl, hba, hca⟩ := RA.out.get HW.out.below i hxl
                have HAT := Lib.hid fun W r => (rat_any (some ⟨ba, 0, none⟩) nx ca X HX.out (i + 1) W r)
                generalize X[i] = x at *
                generalize X.getD (i + 1) 0 = y at *
                have hba2 : ba < wr.heap.size := Nat.lt_of_lt_of_le hba HW.out.below.size
                have ht : (x : Int) + 256 * (y : Int) = ((x + y * 256 : Nat) : Int) := by omega
                have htl : x + y * 256 < 65536 := by omega
                generalize x + y * 256 = t at *
                have h0i : (0 : Int) ≤ (i : Int) := by omega
                have h0j : (i : Int) < (nx : Int) := by omega
                have HHT := Lib.hid ht
                have hnn : (0 : Int) ≤ (x : Int) + 256 * (y : Int) := by omega
                have hub : (x : Int) + 256 * (y : Int) ≤ 65536 := by omega
                clear ht hxl
                go_wp2
                have hwi : IntKind.i64.wrap ((i : Int) + 1) = ((i + 1 : Nat) : Int) := by rw [IntKind.wrap_i64]; omega
                have hwy : IntKind.i64.wrap (256 * (y : Int)) = 256 * (y : Int) := by rw [IntKind.wrap_i64]; omega
                have hwz : IntKind.i64.wrap ((x : Int) + 256 * (y : Int)) = (t : Int) := by rw [HHT.out, IntKind.wrap_i64]; omega
                have hwx : IntKind.i64.wrap (x : Int) = (x : Int) := by rw [IntKind.wrap_i64]; omega
                go_region_held3 (fun W => RowAt W .i64 (some ⟨ba, 0, none⟩) ca X ∧ W.cell? ⟨ba, i, none⟩ = some (.int .i64 (x : Int))) (exact ⟨by first | assumption | exact RowAt.drew (by assumption), by assumption⟩) (first | (go_at_call 72; refine (HAT.out _ (by first | assumption | exact RowAt.drew (by assumption))).mono ?_; rintro e w' ⟨rfl, rfl⟩))
                clear hwi hwy hwz hwx
                have hts : (t : Int) < 65536 := by omega
                go_wp2_with (first | (at_builtin; refine wpList_append_one rfl _ _ 84 rfl Try.underlying84 info3 rfl (by omega) w2 HW.out.drew (t / 2 ^ s % 256) _ rfl rfl (by go_num) HLN.out ?_; intro v1 w3 hap1))
                go_roundw
                case rel => exact ⟨i + 1, _, by omega, by go_num, HST.out, snoc_lt HOL.out (Nat.mod_lt _ (by omega)), hap1⟩
                case measure => simp [intOf]; omega
              · have hie : i = max k nx := by omega
                have HM2 := Lib.hid HMA.out
                rw [hie, ← HX.out] at HM2
                have hv := HM2.out.leave (by omega) HXL.out
                rw [← HP.out] at hv
                have HV := Lib.hid hv
                obtain ⟨ao, co, hvo, hr⟩ := own_slice HW.out.own
                subst hvo
                have hol : O.length ≤ 1000000 := by rw [HMA.out.len]; omega
                have hmx := hr.max
                have hle := hr.le
                unfold maxLen at hmx
                have HMD := Lib.hid (made_any ao O.length co O rfl HOL.out hol wr hr)
                rw [HV.out] at HMD
                clear hr hv hie HM2
                go_wp2_with (go_at_call 67; refine HMD.out.mono ?_; rintro e w5 ⟨rfl, B5⟩)
                go_ret2
                exact ⟨by rw [hR.out]; rfl, (HB2.out.on HW.out.below).on B5⟩
end Go.Proofs.Ytfhkpkebiinglaa
