/-
  The walks of Pow, the program's and the reference's.
-/
import Derived.Test.YtfhkpkebiinglaaPw
namespace Go.Proofs.Ytfhkpkebiinglaa
open Go.RowKit

theorem ne_one {x : Nat} (hx : x ≠ 1) : ((enc x).toList == [1]) = false := by
  rw [beq_eq_false_iff_ne]
  intro h
  have h1 : bytesR (enc x) = [1] := by
    unfold bytesR
    rw [← ByteArray.toList_eq, h]; rfl
  rw [bytesR_enc] at h1
  have h2 := dval_digs (B := 256) (by omega) x
  rw [h1] at h2
  simp [dval] at h2
  omega
theorem ne_nil {x : Nat} (hx : x ≠ 0) : ¬ (enc x).toList = [] ∧ (enc x).toList.isEmpty = false := by
  have hsz : (enc x).size ≠ 0 := fun h => by
    rw [enc_size] at h
    have := (digs_nil (B := 256) (by omega)).1 (List.eq_nil_of_length_eq_zero h)
    omega
  exact ⟨fun h => hsz ((toList_nil _).1 h), by rw [isEmpty_size]; simp [hsz]⟩
theorem pow_bit (n i : Nat) (hn : n ≤ 131072) : (bits .and .i64 ((n : Int) / 2 ^ i) 1) = ((n / 2 ^ i % 2 : Nat) : Int) := by
  have e : ((n : Int) / 2 ^ i) = ((n / 2 ^ i : Nat) : Int) := by push_cast; rfl
  rw [e, and_one]
  exact Nat.lt_of_le_of_lt (Nat.div_le_self _ _) (by omega)

set_option maxRecDepth 20000 in
set_option maxHeartbeats 800000 in
theorem Pow_main (x n : Nat) (hx : 2 ≤ x) (hsx : Sm x) (hn : n ≤ 131072) (hn0 : 0 < n) (w : World) :
    Calls Try.prog 55 #[.string (enc x), .int .i64 (n : Int)] w fun e w' => e = .returned (endN (x ^ n)) ∧ Below w.heap.size w w' := by
  have hne1 := ne_one (x := x) (by omega)
  obtain ⟨hz3, hz2⟩ := ne_nil (x := x) (by omega)
  have HM := Lib.hid (may_one (enc x) w hsx.size true (by simp [hsx.ok]))
  obtain ⟨R, hR⟩ : ∃ R, R = Lib.bitLen n := ⟨_, rfl⟩
  have HBL : Hid (Lib.bitLen n = R) := hR.symm
  have HR : Hid (n / 2 ^ R = 0) := by
    refine Nat.div_eq_of_lt ?_
    rw [hR, bitLen_blen n (by omega)]
    exact (blen_le n _).1 (Nat.le_refl _)
  have hR18 : R ≤ 18 := by
    rw [hR, bitLen_blen n (by omega), blen_le]; omega
  clear hR
  have HX := Lib.hid hx
  have HSX := Lib.hid hsx
  have E1 : Hid (enc 1 = ⟨#[1]⟩) := enc_1
  have HMU : Hid (∀ Y Z, Sm Y → Sm Z → Ans 20 #[.string (enc Y), .string (enc Z)] (endN (Y * Z))) := fun Y Z hy hz => mul_ans hy hz
  generalize hA : enc x = A at *
  have HA : Hid (enc x = A) := hA
  have hnb : (((n : Nat) : Int) == 0) = false := by rw [beq_eq_false_iff_ne]; omega
  have hnz0 : ¬ (n : Int) < 0 := by omega
  have hnz1 : ¬ (131072 : Int) < (n : Int) := by omega
  clear hA hsx hx
  go_enter Try.func55, Try.ntmps55
  go_wp2_with (first | (go_at_call 58; refine HM.out.mono ?_; rintro e w1 ⟨rfl, B1⟩) | (go_at_call 82; refine (Try.bits_Len _ _ (by omega) (by omega)).mono ?_; rintro e w2 ⟨rfl, hw⟩; have hw2 := hw.symm; subst hw2; rw [show (n : Int).toNat = n from Int.toNat_natCast n, HBL.out]))
  go_loopw [6, 7] (fun vo vi wr => ∃ r s, r ≤ 18 ∧ vi = .int .i64 (((r : Nat) : Int) - 1) ∧ vo = .string s ∧ Hid (s = enc (x ^ (n / 2 ^ r)) ∧ Sm (x ^ (n / 2 ^ r))) ∧ Hid (Below w.heap.size w wr)) (fun _ vi _ => (intOf vi + 1).toNat)
  case atStart => exact ⟨R, ⟨#[1]⟩, hR18, by first | rfl | (congr 1), rfl, by refine ⟨?_, ?_⟩; (rw [HR.out, Nat.pow_zero, E1.out]); (rw [HR.out, Nat.pow_zero]; exact sm_one), B1⟩
  case round =>
    obtain ⟨r, s, hr, rfl, rfl, HS, HBW⟩ := hrel
    rcases r with _ | i
    · have HE : Hid (endN (x ^ n) = .tuple #[.string s, .int .i64 0]) := by
        show _ = _
        have h := HS.out
        rw [Nat.pow_zero, Nat.div_one] at h
        rw [h.2.endN, h.1]
      go_wp2
      go_ret2
      exact ⟨by rw [HE.out]; rfl, HBW.out⟩
    · have hi1 : ((i + 1 : Nat) : Int) - 1 = (i : Int) := by omega
      have hbit := pow_bit n i hn
      have HST := Lib.hid (pow_step x n i)
      have HSQ := Lib.hid (HMU.out _ _ HS.out.2 HS.out.2)
      have hs := HS.out.1
      rw [← hs] at HSQ
      have HMID : Hid (¬ Sm (x ^ (n / 2 ^ (i + 1)) * x ^ (n / 2 ^ (i + 1))) → endN (x ^ n) = .tuple #[.string ⟨#[]⟩, .int .i64 4]) := fun h => not_sm (by
        rw [pow_sq] at h
        exact pow_mid (by have := HX.out; omega) (pow_sq_le n i) h)
      have HMID2 : Hid (n / 2 ^ i % 2 = 1 → ¬ Sm (x ^ (n / 2 ^ (i + 1)) * x ^ (n / 2 ^ (i + 1)) * x) → endN (x ^ n) = .tuple #[.string ⟨#[]⟩, .int .i64 4]) := fun hb h => not_sm (by
        have e := HST.out
        rw [if_pos hb] at e
        rw [← e] at h
        exact pow_mid (by have := HX.out; omega) (Nat.div_le_self _ _) h)
      have hi18 : i ≤ 18 := by omega
      rw [hi1]
      clear hs hi1 HS
      generalize x ^ (n / 2 ^ (i + 1)) * x ^ (n / 2 ^ (i + 1)) = Y at *
      by_cases hY : Sm Y
      · rw [hY.endN] at HSQ
        have HY := Lib.hid hY
        have HML := Lib.hid (HMU.out _ _ hY HSX.out)
        rw [HA.out] at HML
        generalize hB : enc Y = B at *
        have HB : Hid (enc Y = B) := hB
        clear hY hB HMID
        by_cases hb : n / 2 ^ i % 2 = 1
        · rw [hb] at hbit
          have hbit1 : bits .and .i64 ((n : Int) / 2 ^ i) 1 = 1 := hbit
          have HN := Lib.hid (HST.out.trans (if_pos hb))
          have HMID3 := Lib.hid (HMID2.out hb)
          clear hb hbit HMID2 HST
          by_cases hZ : Sm (Y * x)
          · rw [hZ.endN] at HML
            have HZ := Lib.hid hZ
            clear hZ HMID3
            go_wp2_with (first | (go_at_call 20; with_reducible refine (HSQ.out.call _).mono ?_; rintro e w3 ⟨rfl, B3⟩) | (go_at_call 20; with_reducible refine (HML.out.call _).mono ?_; rintro e w4 ⟨rfl, B4⟩))
            go_roundw
            case rel => exact ⟨i, _, by omega, rfl, rfl, ⟨by rw [HN.out], by rw [HN.out]; exact HZ.out⟩, (HBW.out.on B3).on B4⟩
            case measure => simp [intOf]
          · rw [not_sm hZ] at HML
            have HF := Lib.hid (HMID3.out hZ)
            clear hZ HMID3
            go_wp2_with (first | (go_at_call 20; with_reducible refine (HSQ.out.call _).mono ?_; rintro e w3 ⟨rfl, B3⟩) | (go_at_call 20; with_reducible refine (HML.out.call _).mono ?_; rintro e w4 ⟨rfl, B4⟩))
            go_ret2
            exact ⟨by rw [HF.out]; rfl, (HBW.out.on B3).on B4⟩
        · have hb0 : n / 2 ^ i % 2 = 0 := by omega
          rw [hb0] at hbit
          have hbit1 : bits .and .i64 ((n : Int) / 2 ^ i) 1 = 0 := hbit
          have HN := Lib.hid (HST.out.trans (if_neg hb))
          clear hb hb0 hbit HMID2 HML HST
          go_wp2_with (first | (go_at_call 20; with_reducible refine (HSQ.out.call _).mono ?_; rintro e w3 ⟨rfl, B3⟩))
          go_roundw
          case rel => exact ⟨i, _, by omega, rfl, rfl, ⟨by rw [HN.out]; exact HB.out.symm, by rw [HN.out]; exact HY.out⟩, HBW.out.on B3⟩
          case measure => simp [intOf]
      · rw [not_sm hY] at HSQ
        have HF := Lib.hid (HMID.out hY)
        clear hY HMID HMID2 hbit HST
        go_wp2_with (first | (go_at_call 20; with_reducible refine (HSQ.out.call _).mono ?_; rintro e w3 ⟨rfl, B3⟩))
        go_ret2
        exact ⟨by rw [HF.out]; rfl, HBW.out.on B3⟩

set_option maxRecDepth 20000 in
set_option maxHeartbeats 800000 in
theorem rPow_main (x n : Nat) (hx : 2 ≤ x) (hsx : Sm x) (hn : n ≤ 131072) (hn0 : 0 < n) (w : World) :
    Calls Try.prog 56 #[.string (enc x), .int .i64 (n : Int)] w fun e w' => e = .returned (endN (x ^ n)) ∧ Below w.heap.size w w' := by
  have hne1 := ne_one (x := x) (by omega)
  obtain ⟨hz3, hz2⟩ := ne_nil (x := x) (by omega)
  have HR : Hid (n / 2 ^ 18 = 0) := Nat.div_eq_of_lt (by omega)
  have HX := Lib.hid hx
  have HSX := Lib.hid hsx
  have E1 : Hid (enc 1 = ⟨#[1]⟩) := enc_1
  have HMU : Hid (∀ Y Z, Sm Y → Sm Z → Ans 22 #[.string (enc Y), .string (enc Z)] (endN (Y * Z))) := fun Y Z hy hz => rmul_ans hy hz
  generalize hA : enc x = A at *
  have HA : Hid (enc x = A) := hA
  have hnb : (((n : Nat) : Int) == 0) = false := by rw [beq_eq_false_iff_ne]; omega
  have hnz0 : ¬ (n : Int) < 0 := by omega
  have hnz1 : ¬ (131072 : Int) < (n : Int) := by omega
  clear hA hsx hx
  go_enter Try.func56, Try.ntmps56
  go_wp2_with (first | fail)
  go_loopw [6, 7] (fun vo vi wr => ∃ r s, r ≤ 18 ∧ vi = .int .i64 (((r : Nat) : Int) - 1) ∧ vo = .string s ∧ Hid (s = enc (x ^ (n / 2 ^ r)) ∧ Sm (x ^ (n / 2 ^ r))) ∧ Hid (Below w.heap.size w wr)) (fun _ vi _ => (intOf vi + 1).toNat)
  case atStart => exact ⟨18, ⟨#[1]⟩, Nat.le_refl _, by first | rfl | (congr 1), rfl, by refine ⟨?_, ?_⟩; (rw [HR.out, Nat.pow_zero, E1.out]); (rw [HR.out, Nat.pow_zero]; exact sm_one), Below.refl _ _⟩
  case round =>
    obtain ⟨r, s, hr, rfl, rfl, HS, HBW⟩ := hrel
    rcases r with _ | i
    · have HE : Hid (endN (x ^ n) = .tuple #[.string s, .int .i64 0]) := by
        show _ = _
        have h := HS.out
        rw [Nat.pow_zero, Nat.div_one] at h
        rw [h.2.endN, h.1]
      go_wp2
      go_ret2
      exact ⟨by rw [HE.out]; rfl, HBW.out⟩
    · have hi1 : ((i + 1 : Nat) : Int) - 1 = (i : Int) := by omega
      have hbit := pow_bit n i hn
      have HST := Lib.hid (pow_step x n i)
      have HSQ := Lib.hid (HMU.out _ _ HS.out.2 HS.out.2)
      have hs := HS.out.1
      rw [← hs] at HSQ
      have HMID : Hid (¬ Sm (x ^ (n / 2 ^ (i + 1)) * x ^ (n / 2 ^ (i + 1))) → endN (x ^ n) = .tuple #[.string ⟨#[]⟩, .int .i64 4]) := fun h => not_sm (by
        rw [pow_sq] at h
        exact pow_mid (by have := HX.out; omega) (pow_sq_le n i) h)
      have HMID2 : Hid (n / 2 ^ i % 2 = 1 → ¬ Sm (x ^ (n / 2 ^ (i + 1)) * x ^ (n / 2 ^ (i + 1)) * x) → endN (x ^ n) = .tuple #[.string ⟨#[]⟩, .int .i64 4]) := fun hb h => not_sm (by
        have e := HST.out
        rw [if_pos hb] at e
        rw [← e] at h
        exact pow_mid (by have := HX.out; omega) (Nat.div_le_self _ _) h)
      have hi18 : i ≤ 18 := by omega
      rw [hi1]
      clear hs hi1 HS
      generalize x ^ (n / 2 ^ (i + 1)) * x ^ (n / 2 ^ (i + 1)) = Y at *
      by_cases hY : Sm Y
      · rw [hY.endN] at HSQ
        have HY := Lib.hid hY
        have HML := Lib.hid (HMU.out _ _ hY HSX.out)
        rw [HA.out] at HML
        generalize hB : enc Y = B at *
        have HB : Hid (enc Y = B) := hB
        clear hY hB HMID
        by_cases hb : n / 2 ^ i % 2 = 1
        · rw [hb] at hbit
          have hbit1 : bits .and .i64 ((n : Int) / 2 ^ i) 1 = 1 := hbit
          have HN := Lib.hid (HST.out.trans (if_pos hb))
          have HMID3 := Lib.hid (HMID2.out hb)
          clear hb hbit HMID2 HST
          by_cases hZ : Sm (Y * x)
          · rw [hZ.endN] at HML
            have HZ := Lib.hid hZ
            clear hZ HMID3
            go_wp2_with (first | (go_at_call 22; with_reducible refine (HSQ.out.call _).mono ?_; rintro e w3 ⟨rfl, B3⟩) | (go_at_call 22; with_reducible refine (HML.out.call _).mono ?_; rintro e w4 ⟨rfl, B4⟩))
            go_roundw
            case rel => exact ⟨i, _, by omega, rfl, rfl, ⟨by rw [HN.out], by rw [HN.out]; exact HZ.out⟩, (HBW.out.on B3).on B4⟩
            case measure => simp [intOf]
          · rw [not_sm hZ] at HML
            have HF := Lib.hid (HMID3.out hZ)
            clear hZ HMID3
            go_wp2_with (first | (go_at_call 22; with_reducible refine (HSQ.out.call _).mono ?_; rintro e w3 ⟨rfl, B3⟩) | (go_at_call 22; with_reducible refine (HML.out.call _).mono ?_; rintro e w4 ⟨rfl, B4⟩))
            go_ret2
            exact ⟨by rw [HF.out]; rfl, (HBW.out.on B3).on B4⟩
        · have hb0 : n / 2 ^ i % 2 = 0 := by omega
          rw [hb0] at hbit
          have hbit1 : bits .and .i64 ((n : Int) / 2 ^ i) 1 = 0 := hbit
          have HN := Lib.hid (HST.out.trans (if_neg hb))
          clear hb hb0 hbit HMID2 HML HST
          go_wp2_with (first | (go_at_call 22; with_reducible refine (HSQ.out.call _).mono ?_; rintro e w3 ⟨rfl, B3⟩))
          go_roundw
          case rel => exact ⟨i, _, by omega, rfl, rfl, ⟨by rw [HN.out]; exact HB.out.symm, by rw [HN.out]; exact HY.out⟩, HBW.out.on B3⟩
          case measure => simp [intOf]
      · rw [not_sm hY] at HSQ
        have HF := Lib.hid (HMID.out hY)
        clear hY HMID HMID2 hbit HST
        go_wp2_with (first | (go_at_call 22; with_reducible refine (HSQ.out.call _).mono ?_; rintro e w3 ⟨rfl, B3⟩))
        go_ret2
        exact ⟨by rw [HF.out]; rfl, HBW.out.on B3⟩

end Go.Proofs.Ytfhkpkebiinglaa
