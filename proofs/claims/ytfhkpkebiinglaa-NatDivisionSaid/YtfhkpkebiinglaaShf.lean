/-
  The walks of Shift, the program's and the reference's.
-/
import Derived.Test.YtfhkpkebiinglaaNum
namespace Go.Proofs.Ytfhkpkebiinglaa
open Go.RowKit

/-- What Shift answers. -/
def shN (x : Nat) (n : Int) : Value :=
  if x = 0 then .tuple #[.string ⟨#[]⟩, .int .i64 0] else if 131072 < n then .tuple #[.string ⟨#[]⟩, .int .i64 4]
  else if n < 0 then .tuple #[.string (enc (x / 2 ^ (-n).toNat)), .int .i64 0] else endN (x * 2 ^ n.toNat)
theorem two_pow_8 (k : Nat) : (2 : Nat) ^ (8 * k) = 256 ^ k := by rw [Nat.pow_mul]
theorem shift_gone {a : ByteArray} (ha : Ok a) {m : Nat} (hm : 131072 ≤ m) : bval a / 2 ^ m = 0 := by
  refine Nat.div_eq_of_lt (Nat.lt_of_lt_of_le (bval_lt a) ?_)
  rw [← two_pow_8]
  exact Nat.pow_le_pow_right (by omega) (by have := ha.1; omega)
theorem shift_len {a : ByteArray} (ha : Ok a) {m : Nat} (hm : m ≤ 131072) : (digs 4294967296 (bval a * 2 ^ m)).length ≤ 1000000 ∧ (digs 256 (bval a * 2 ^ m)).length ≤ 1000000 := by
  have h1 := bval_lt a
  obtain ⟨k, hk⟩ : ∃ k, k = 8192 := ⟨_, rfl⟩
  have h2 : bval a * 2 ^ m < 256 ^ (4 * k) := by
    have h3 : (2 : Nat) ^ m ≤ 2 ^ (8 * (2 * k)) := Nat.pow_le_pow_right (by omega) (by omega)
    rw [two_pow_8] at h3
    have h4 : 256 ^ a.size ≤ 256 ^ (2 * k) := Nat.pow_le_pow_right (by omega) (by have := ha.1; omega)
    have e : (256 : Nat) ^ (4 * k) = 256 ^ (2 * k) * 256 ^ (2 * k) := by rw [← Nat.pow_add]; congr 1; omega
    rw [e]
    exact Nat.mul_lt_mul_of_lt_of_le (by omega) h3 (Nat.pow_pos (by omega))
  exact ⟨Nat.le_trans (limbs_len h2) (by omega), Nat.le_trans ((digs_len (by omega) _ _).2 h2) (by omega)⟩

set_option maxRecDepth 20000 in
theorem Shift_any (a : ByteArray) (n : Int) (hn : -9223372036854775808 ≤ n ∧ n < 9223372036854775808) (w : World) (ha : a.size ≤ maxLen) :
    Calls Try.prog 28 #[.string a, .int .i64 n] w fun e w' => e = .returned (if Ok a then shN (bval a) n else .tuple #[.string ⟨#[]⟩, .int .i64 2]) ∧ Below w.heap.size w w' := by
  have HM := Lib.hid fun t ht => may_one a w ha t ht
  obtain ⟨hn1, hn2⟩ := hn
  by_cases hok : Ok a
  · have HM2 := Lib.hid (HM.out true (by simp [hok]))
    rw [if_pos hok]
    have hz : a.toList.isEmpty = decide (a.size = 0) := isEmpty_size a
    have h0 := ok_zero a hok
    by_cases ha0 : a.size = 0
    · have hR : Hid (shN (bval a) n = .tuple #[.string ⟨#[]⟩, .int .i64 0]) := if_pos (h0.2 ha0)
      have hz2 : a.toList.isEmpty = true := by rw [hz]; simp [ha0]
      have hz3 : a.toList = [] := (toList_nil a).2 ha0
      clear hz h0 hok ha HM
      go_enter Try.func28, Try.ntmps28
      go_wp2_with (go_at_call 58; refine HM2.out.mono ?_; rintro e w1 ⟨rfl, B1⟩)
      go_ret2
      exact ⟨by rw [hR.out]; rfl, B1⟩
    · have hz2 : a.toList.isEmpty = false := by rw [hz]; simp [ha0]
      have hz3 : ¬ a.toList = [] := fun h => ha0 ((toList_nil a).1 h)
      have hx0 : bval a ≠ 0 := fun e => ha0 (h0.1 e)
      by_cases hbig : 131072 < n
      · have hR : Hid (shN (bval a) n = .tuple #[.string ⟨#[]⟩, .int .i64 4]) := by show _ = _; unfold shN; rw [if_neg hx0, if_pos hbig]
        clear hz h0 hok ha HM hx0
        go_enter Try.func28, Try.ntmps28
        go_wp2_with (go_at_call 58; refine HM2.out.mono ?_; rintro e w1 ⟨rfl, B1⟩)
        go_ret2
        exact ⟨by rw [hR.out]; rfl, B1⟩
      · by_cases hfar : n < -131072
        · have hR : Hid (shN (bval a) n = .tuple #[.string ⟨#[]⟩, .int .i64 0]) := by
            show _ = _
            unfold shN
            rw [if_neg hx0, if_neg hbig, if_pos (by omega), shift_gone hok (by omega)]; rfl
          clear hz h0 hok ha HM hx0
          go_enter Try.func28, Try.ntmps28
          go_wp2_with (go_at_call 58; refine HM2.out.mono ?_; rintro e w1 ⟨rfl, B1⟩)
          go_ret2
          exact ⟨by rw [hR.out]; rfl, B1⟩
        · have HA := Lib.hid fun w => open_row a hok.1 w
          by_cases hneg : n < 0
          · obtain ⟨m, hm⟩ : ∃ m : Nat, -n = (m : Int) := ⟨(-n).toNat, by omega⟩
            have hmn : n = -(m : Int) := by omega
            subst hmn
            have hR : Hid (shN (bval a) (-(m : Int)) = .tuple #[.string (enc (bval a / 2 ^ m)), .int .i64 0]) := by
              show _ = _
              unfold shN
              rw [if_neg hx0, if_neg hbig, if_pos hneg]
              have : (- -(m : Int)).toNat = m := by omega
              rw [this]
            obtain ⟨e1, l1⟩ := enc_of_le (Nat.div_le_self (bval a) (2 ^ m)) hok
            have he : endN (bval a / 2 ^ m) = .tuple #[.string (enc (bval a / 2 ^ m)), .int .i64 0] := Sm.endN (Sm.le (Sm.of_ok hok) (Nat.div_le_self _ _))
            have HE := Lib.hid he
            have HL := Lib.hid l1
            have HU := Lib.hid fun aa n0 ca A hn0 hA ha w rA => right_any aa n0 ca A hn0 m hA ha (by omega) w rA
            have hmm : -(-(m : Int)) = (m : Int) := by omega
            have hm3 : m ≤ 131072 := by omega
            clear hz h0 hok ha HM hx0 e1 l1 he
            go_enter Try.func28, Try.ntmps28
            go_wp2_with (first | (go_at_call 58; refine HM2.out.mono ?_; rintro e w1 ⟨rfl, B1⟩) | (go_at_call 60; with_reducible refine (HA.out _).mono ?_; rintro e w2 ⟨aa, ca, LA, rfl, RA, VA, SA, NA, B2⟩) | (go_at_call 68; have HG := Lib.hid (HU.out aa LA.length ca LA rfl SA.out (by omega) _ RA.out); rw [VA.out] at HG; refine HG.out.mono ?_; intro e w4 hg; obtain ⟨ap, n4, cp, rfl, CS, B4⟩ := gave_shut hg HL.out; clear hg; rw [HE.out] at CS) | (go_at_call 61; refine CS.out.mono ?_; rintro e w5 ⟨rfl, B5⟩))
            go_ret2
            exact ⟨by rw [hR.out]; rfl, ((B1.on B2).on B4).on B5⟩
          · obtain ⟨m, rfl⟩ : ∃ m : Nat, n = (m : Int) := ⟨n.toNat, by omega⟩
            have hR : Hid (shN (bval a) (m : Int) = endN (bval a * 2 ^ m)) := by
              show _ = _
              unfold shN
              rw [if_neg hx0, if_neg hbig, if_neg hneg, Int.toNat_natCast]
            have hm3 : m ≤ 131072 := by omega
            have HL := Lib.hid (shift_len hok hm3).1
            have HU := Lib.hid fun aa ca A hA ha w rA => left_any aa ca A m hA ha (by omega) w rA
            have hbz : ¬ (131072 : Int) < (m : Int) := hbig
            have hfz : ¬ (m : Int) < -131072 := hfar
            clear hz h0 hok ha HM hx0 hn1 hn2 hneg hbig hfar
            go_enter Try.func28, Try.ntmps28
            go_wp2_with (first | (go_at_call 58; refine HM2.out.mono ?_; rintro e w1 ⟨rfl, B1⟩) | (go_at_call 60; with_reducible refine (HA.out _).mono ?_; rintro e w2 ⟨aa, ca, LA, rfl, RA, VA, SA, NA, B2⟩) | (go_at_call 69; have HG := Lib.hid (HU.out aa ca LA SA.out (by omega) _ RA.out); rw [VA.out] at HG; refine HG.out.mono ?_; intro e w4 hg; obtain ⟨ap, n4, cp, rfl, CS, B4⟩ := gave_shut hg HL.out; clear hg) | (go_at_call 61; refine CS.out.mono ?_; rintro e w5 ⟨rfl, B5⟩; unfold endN))
            go_ret2
            exact ⟨by rw [hR.out]; rfl, ((B1.on B2).on B4).on B5⟩
  · have HM2 := Lib.hid (HM.out false (by simp only [hok, decide_false]))
    rw [if_neg hok]
    clear hok HM
    go_enter Try.func28, Try.ntmps28
    go_wp2_with (go_at_call 58; refine HM2.out.mono ?_; rintro e w1 ⟨rfl, B1⟩)
    go_ret2
    exact ⟨rfl, B1⟩
end Go.Proofs.Ytfhkpkebiinglaa
