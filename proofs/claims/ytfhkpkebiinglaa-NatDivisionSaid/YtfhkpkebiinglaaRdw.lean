/-
  The walk of Read.
-/
import Derived.Test.YtfhkpkebiinglaaRd
namespace Go.Proofs.Ytfhkpkebiinglaa
open Go.RowKit

theorem Ap.cell {w0 w : World} {e : TypeId} {k : IntKind} {g n cap : Nat} {L : List Nat} (h : Ap w0 e k (.slice (some ⟨g, 0, none⟩) n cap) L w) (i : Nat) (hi : i < L.length) : w.cell? ⟨g, i, none⟩ = some (.int k (L[i] : Nat)) := by
  have := h.own.cells (g := g) rfl i (.int k (L[i] : Nat)) (by simp [cu, hi])
  rwa [Addr.add_lit, Nat.zero_add] at this
theorem Ap.some {w0 w : World} {e : TypeId} {k : IntKind} {ao : Option Addr} {n cap : Nat} {L : List Nat} (h : Ap w0 e k (.slice ao n cap) L w) (hl : 0 < L.length) : ∃ g, ao = some ⟨g, 0, none⟩ ∧ w0.heap.size ≤ g ∧ g < w.heap.size := by
  obtain ⟨g, c, hv, h1, h2⟩ := h.own.form hl
  simp only [Value.slice.injEq] at hv
  exact ⟨g, hv.1, h1, h2⟩
set_option maxRecDepth 20000 in
set_option maxHeartbeats 2000000 in
theorem Read_main (s : ByteArray) (hd : DigOk s) (hs : s.size ≤ maxLen) (w : World) :
    Calls Try.prog 42 #[.string s] w fun e w' => (∃ v, readIs s v ∧ e = .returned v) ∧ Below w.heap.size w w' := by
  have HD := Lib.hid hd
  have hz3 : ¬ s.toList = [] := fun h => hd.ne ((toList_nil s).1 h)
  have hz2 : s.toList.isEmpty = false := by rw [isEmpty_size]; simp [hd.ne]
  have hp : 0 < s.size := Nat.pos_of_ne_zero hd.ne
  have hlead : ((1 : Int) < (s.size : Int) ∧ ((s[0].toNat : Int) == 48) = false) ∨ ¬ ((1 : Int) < (s.size : Int)) := by
    by_cases h1 : 1 < s.size
    · exact .inl ⟨by omega, by rw [beq_eq_false_iff_ne]; have := hd.lead h1 hp; omega⟩
    · exact .inr (by omega)
  unfold maxLen at hs
  clear hd
  rcases hlead with ⟨h1, h2⟩ | h1
  all_goals
    go_enter Try.func42, Try.ntmps42
    go_wp2
    go_loop [25] (fun vi => ∃ i : Nat, i ≤ s.size ∧ vi = .int .i64 (i : Int)) (fun vi => s.size - (intOf vi).toNat)
    case atStart => exact ⟨0, Nat.zero_le _, rfl⟩
    case round =>
      obtain ⟨i, hi, rfl⟩ := hrel
      by_cases hlt : i < s.size
      · obtain ⟨g1, g2⟩ := HD.out.all i hlt
        have n1 : ¬ s[i].toNat < 48 := by omega
        have n2 : ¬ 57 < s[i].toNat := by omega
        go_wp2
        go_round
        case rel => exact ⟨i + 1, by omega, by go_num⟩
        case measure => simp [intOf]; omega
      · by_cases hbig : 49152 < s.size
        · have hbz : (49152 : Int) < (s.size : Int) := by omega
          go_wp2
          go_ret2
          exact ⟨⟨_, .inr (.inl ⟨HD.out, hbig, rfl⟩), rfl⟩, Below.refl _ _⟩
        · have hbz : ¬ (49152 : Int) < (s.size : Int) := by omega
          have hs2 : s.size ≤ 49152 := by omega
          clear hbig hs
          go_wp2
          clear hlt hi
          go_loopw [5, 6] (fun vl vf wr => ∃ (f : Nat) (ao : Option Addr) (n cap : Nat) (L : List Nat), f ≤ s.size ∧ vf = .int .i64 (f : Int) ∧ vl = .slice ao n cap ∧ Hid (L.length = n) ∧ n ≤ f ∧ Hid (∀ d ∈ L, d < 4294967296) ∧ Hid (dval 4294967296 L = tpre s f) ∧ Hid (Ap w 91 .u32 (.slice ao n cap) L wr)) (fun _ vf _ => s.size - (intOf vf).toNat)
          case atStart => exact ⟨0, none, 0, 0, [], Nat.zero_le _, rfl, rfl, rfl, Nat.le_refl _, (fun d h => by cases h), (tpre_zero s).symm, Ap.nil _ _ _⟩
          case round =>
            obtain ⟨f, ao, n, cap, L, hf, rfl, rfl, HN, hnf, HL, HV, HW⟩ := hrel
            by_cases hfl : f < s.size
            · obtain ⟨T, hT⟩ : ∃ T, T = min s.size (f + 9) := ⟨_, rfl⟩
              have hmin : min (s.size : Int) ((f : Int) + 9) = (T : Int) := by omega
              have hT1 : f < T := by omega
              have hT2 : T ≤ s.size := by omega
              have HST := Lib.hid (NineAt.start s f T (by omega) (by omega) hT2)
              clear hT
              go_wp2
              go_loop [6, 8, 9] (fun vg vt vd => ∃ g ten d : Nat, vg = .int .i64 (g : Int) ∧ vt = .int .u64 (ten : Int) ∧ vd = .int .u64 (d : Int) ∧ g ≤ T ∧ 1 ≤ ten ∧ ten ≤ 1000000000 ∧ d < ten ∧ Hid (NineAt s f T g ten d)) (fun vg _ _ => T - (intOf vg).toNat)
              case atStart => exact ⟨f, 1, 0, rfl, rfl, rfl, by omega, by omega, by omega, by omega, HST⟩
              case round =>
                obtain ⟨g, ten, d, rfl, rfl, rfl, hg, ht1, ht2, hdt, HNI⟩ := hrel
                by_cases hgT : g < T
                · have hgs : g < s.size := by omega
                  obtain ⟨g1, g2⟩ := HD.out.all g hgs
                  have HNX := Lib.hid (HNI.out.step hgT hgs (HD.out.all g hgs))
                  have hb := HNX.out.bounds
                  obtain ⟨b1, b2, b3⟩ := hb
                  go_wp2
                  go_round
                  case rel => exact ⟨g + 1, ten * 10, 10 * d + (s[g].toNat - 48), by go_num, by go_num, by congr 1; omega, by omega, b1, b2, b3, HNX⟩
                  case measure => simp [intOf]; omega
                · have hge : g = T := by omega
                  subst hge
                  have HMS := Lib.hid (MadAt.start HL.out hdt)
                  have HTV := Lib.hid (HNI.out.val)
                  clear hgT HST HNI hmin
                  go_wp2
                  obtain ⟨wo, rfl⟩ : ∃ wo : World, wo = wr := ⟨_, rfl⟩
                  go_loopw [9, 68] (fun vd vi wi => ∃ (i e : Nat) (O : List Nat), vi = .int .i64 (i : Int) ∧ vd = .int .u64 (e : Int) ∧ e < ten ∧ i ≤ n ∧ Hid (MadAt 4294967296 L ten d i e O) ∧ Hid (Ap w 91 .u32 (.slice ao n cap) O wi)) (fun _ vi _ => n - (intOf vi).toNat)
                  case atStart => exact ⟨0, d, L, rfl, rfl, hdt, Nat.zero_le _, HMS, HW⟩
                  case round =>
                    obtain ⟨i, e, O, rfl, rfl, he, hin, HMA, HWO⟩ := hrel
                    have HON : Hid (O.length = n) := HMA.out.len.trans HN.out
                    by_cases hil : i < n
                    · have hiL : i < L.length := by rw [HN.out]; exact hil
                      have hiO : i < O.length := by rw [HON.out]; exact hil
                      obtain ⟨g2, rfl, hg2, hg3⟩ := HWO.out.some (by omega)
                      have hcell := HWO.out.cell i hiO
                      rw [HMA.out.get hiL hiO] at hcell
                      have hfz := HWO.out.frozen HON.out i
                      have HSTO := Lib.hid fun y => HWO.out.store HON.out i y
                      have HMX := Lib.hid (HMA.out.step (by omega) HL.out hiL)
                      have hx := HL.out _ (List.getElem_mem hiL)
                      generalize L[i] = x at *
                      have hp : e + x * ten < 4294967296 * 1000000000 := by
                        have h1 : (x + 1) * ten ≤ 4294967296 * ten := Nat.mul_le_mul_right _ hx
                        have h2 : 4294967296 * ten ≤ 4294967296 * 1000000000 := Nat.mul_le_mul_left _ ht2
                        rw [Nat.add_mul] at h1
                        omega
                      have hxt : (x : Int) * (ten : Int) = ((x * ten : Nat) : Int) := by rw [Int.natCast_mul]
                      have hxp : x * ten < 4294967296 * 1000000000 := by omega
                      have hcar := HMX.out.carry
                      have HCA := Lib.hid hcar
                      clear hcar hp
                      generalize x * ten = p at *
                      have HIL : Hid (i < n) := hil
                      have hn6 : n ≤ 49152 := by omega
                      clear hz2 hz3 hg ht1 hT1 hT2 hnf hdt
                      go_wp2
                      go_roundw
                      case rel => exact ⟨i + 1, _, _, by go_num, by first | rfl | (congr 1), HCA.out, HIL.out, HMX, HSTO.out _⟩
                      case measure => have := HIL.out; simp [intOf]; omega
                    · have hie : i = n := by omega
                      subst hie
                      have HMF := HMA.out
                      have hLV : Hid (dval 4294967296 (O ++ [e]) = tpre s g) := by
                        have h := HMA.out
                        rw [← HN.out] at h
                        show _ = _
                        rw [h.leave, HV.out, HTV.out]
                      clear HMF
                      have he32 : e < 4294967296 := by omega
                      have HLN : Hid (O.length ≤ 10000000) := by show _ ≤ _; rw [HON.out]; omega
                      by_cases h0 : 0 < e
                      · have h0z : (0 : Int) < (e : Int) := by omega
                        go_wp2_with (first | (at_builtin; refine wpList_append_one rfl _ _ 77 rfl Try.underlying77 info91 rfl (by omega) w HWO.out e _ rfl rfl (by omega) HLN.out ?_; intro v1 w2 hap1; obtain ⟨a2, c2, hv2, hr2⟩ := own_slice hap1.own; subst hv2; have HAP := Lib.hid hap1; clear hap1 hr2))
                        go_roundw
                        case rel => exact ⟨g, a2, (O ++ [e]).length, c2, O ++ [e], by omega, rfl, by first | rfl | (simp only [List.length_append, List.length_singleton]), rfl, by rw [List.length_append, List.length_singleton, HON.out]; omega, snoc_lt HMA.out.lt he32, hLV, HAP⟩
                        case measure => simp [intOf]; omega
                      · have he0 : e = 0 := by omega
                        subst he0
                        have hLV2 : Hid (dval 4294967296 O = tpre s g) := by
                          show _ = _
                          rw [← hLV.out, dval_snoc]; simp
                        go_wp2
                        go_roundw
                        case rel => exact ⟨g, ao, i, cap, O, by omega, rfl, rfl, HON, by omega, HMA.out.lt, hLV2, HWO⟩
                        case measure => simp [intOf]; omega
            · have hfe : f = s.size := by omega
              subst hfe
              obtain ⟨a2, c2, hv2, hr2⟩ := own_slice HW.out.own
              rw [HN.out] at hv2
              simp only [Value.slice.injEq, true_and] at hv2
              obtain ⟨rfl, rfl⟩ := hv2
              have HSH := Lib.hid (shut_end ao cap L HL.out (by rw [HN.out]; omega) wr hr2)
              rw [HN.out, HV.out, tpre_all] at HSH
              clear hr2 hnf
              go_wp2_with (go_at_call 61; refine HSH.out.mono ?_; rintro e w5 ⟨rfl, B5⟩; unfold endN)
              go_ret2
              exact ⟨⟨_, .inr (.inr ⟨HD.out, hs2, rfl⟩), rfl⟩, HW.out.below.on B5⟩

set_option maxRecDepth 20000 in
set_option maxHeartbeats 1000000 in
theorem Read_any (s : ByteArray) (hs : s.size ≤ maxLen) (w : World) :
    Calls Try.prog 42 #[.string s] w fun e w' => (∃ v, readIs s v ∧ e = .returned v) ∧ Below w.heap.size w w' := by
  by_cases hd : DigOk s
  · exact Read_main s hd hs w
  · have fin : ∀ e w', e = Ending.returned (.tuple #[.string ⟨#[]⟩, .int .i64 22]) → w = w' → (∃ v, readIs s v ∧ e = .returned v) ∧ Below w.heap.size w w' := by
      rintro e w' rfl rfl
      exact ⟨⟨_, .inl ⟨hd, rfl⟩, rfl⟩, Below.refl _ _⟩
    suffices hmain : Calls Try.prog 42 #[.string s] w fun e w' => e = Ending.returned (.tuple #[.string ⟨#[]⟩, .int .i64 22]) ∧ w = w' from hmain.mono fun e w' h => fin e w' h.1 h.2
    clear fin
    by_cases h0 : s.size = 0
    · have hz3 : s.toList = [] := (toList_nil s).2 h0
      have hz2 : s.toList.isEmpty = true := by rw [isEmpty_size]; simp [h0]
      clear hd
      go_enter Try.func42, Try.ntmps42
      go_wp2
      go_ret2
      exact ⟨rfl, rfl⟩
    · have hz3 : ¬ s.toList = [] := fun h => h0 ((toList_nil s).1 h)
      have hz2 : s.toList.isEmpty = false := by rw [isEmpty_size]; simp [h0]
      have hp : 0 < s.size := Nat.pos_of_ne_zero h0
      by_cases hl : 1 < s.size ∧ s[0].toNat = 48
      · have h1 : (1 : Int) < (s.size : Int) := by omega
        have h2 : ((s[0].toNat : Int) == 48) = true := by rw [hl.2]; rfl
        unfold maxLen at hs
        clear hd hl
        go_enter Try.func42, Try.ntmps42
        go_wp2
        go_ret2
        exact ⟨rfl, rfl⟩
      · have hbad : ∃ i, ∃ h : i < s.size, ¬ (48 ≤ s[i].toNat ∧ s[i].toNat ≤ 57) := by
          apply Classical.byContradiction
          intro hn
          apply hd
          refine ⟨h0, fun h1 h2 h3 => hl ⟨h1, h3⟩, fun i h => ?_⟩
          apply Classical.byContradiction
          intro hc
          exact hn ⟨i, h, hc⟩
        have hlead : ((1 : Int) < (s.size : Int) ∧ ((s[0].toNat : Int) == 48) = false) ∨ ¬ ((1 : Int) < (s.size : Int)) := by
          by_cases h1 : 1 < s.size
          · exact .inl ⟨by omega, by rw [beq_eq_false_iff_ne]; intro h2; exact hl ⟨h1, by omega⟩⟩
          · exact .inr (by omega)
        have HBAD := Lib.hid hbad
        unfold maxLen at hs
        clear hd hl hbad
        rcases hlead with ⟨h1, h2⟩ | h1
        all_goals
          go_enter Try.func42, Try.ntmps42
          go_wp2
          go_loop [25] (fun vi => ∃ i : Nat, i ≤ s.size ∧ vi = .int .i64 (i : Int) ∧ Hid (∀ j (h : j < s.size), j < i → 48 ≤ s[j].toNat ∧ s[j].toNat ≤ 57)) (fun vi => s.size - (intOf vi).toNat)
          case atStart => exact ⟨0, Nat.zero_le _, rfl, fun j _ h => absurd h (Nat.not_lt_zero _)⟩
          case round =>
            obtain ⟨i, hi, rfl, HALL⟩ := hrel
            have hlt : i < s.size := by
              obtain ⟨j, hj, hb⟩ := HBAD.out
              rcases Nat.lt_or_ge i s.size with h | h
              · exact h
              · exact absurd (HALL.out j hj (by omega)) hb
            by_cases hgood : 48 ≤ s[i].toNat ∧ s[i].toNat ≤ 57
            · have HN : Hid (∀ j (h : j < s.size), j < i + 1 → 48 ≤ s[j].toNat ∧ s[j].toNat ≤ 57) := fun j h hj => by
                by_cases e : j = i
                · subst e; exact hgood
                · exact HALL.out j h (by omega)
              obtain ⟨g1, g2⟩ := hgood
              have n1 : ¬ s[i].toNat < 48 := by omega
              have n2 : ¬ 57 < s[i].toNat := by omega
              go_wp2
              go_round
              case rel => exact ⟨i + 1, by omega, by go_num, HN⟩
              case measure => simp [intOf]; omega
            · by_cases hlow : s[i].toNat < 48
              · clear hgood
                go_wp2
                go_ret2
                exact ⟨rfl, rfl⟩
              · have n2 : 57 < s[i].toNat := by omega
                clear hgood
                go_wp2
                go_ret2
                exact ⟨rfl, rfl⟩
end Go.Proofs.Ytfhkpkebiinglaa
