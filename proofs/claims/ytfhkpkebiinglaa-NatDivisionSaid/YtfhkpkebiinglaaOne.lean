/-
  The walks of Small, Len, Low, Bit, and of the reference's Of, Small, Low.
-/
import Derived.Test.YtfhkpkebiinglaaPowx
namespace Go.Proofs.Ytfhkpkebiinglaa
open Go.RowKit

set_option maxRecDepth 20000 in
theorem Small_any (a : ByteArray) (w : World) (ha : a.size ≤ maxLen) :
    Calls Try.prog 44 #[.string a] w fun e w' => e = .returned (if Ok a ∧ a.size ≤ 8 then .tuple #[.int .u64 (bval a : Nat), .bool true] else .tuple #[.int .u64 0, .bool false]) ∧ Below w.heap.size w w' := by
  have HM := Lib.hid fun t ht => may_one a w ha t ht
  by_cases hok : Ok a
  · have HM2 := Lib.hid (HM.out true (by simp [hok]))
    by_cases h8 : a.size ≤ 8
    · rw [if_pos ⟨hok, h8⟩]
      have HA := Lib.hid fun w => open_row a hok.1 w
      have HLT : Hid (bval a < 18446744073709551616) := Nat.lt_of_lt_of_le (bval_lt a) (Nat.pow_le_pow_right (n := 256) (i := a.size) (j := 8) (by omega) h8)
      have HV : Hid (bval a % 4294967296 + bval a / 4294967296 % 4294967296 * 4294967296 = bval a) := by
        show _ = _
        have := HLT.out
        omega
      clear hok ha HM
      generalize bval a = N at *
      have hx : N % 4294967296 < 4294967296 := Nat.mod_lt _ (by omega)
      have hy : N / 4294967296 % 4294967296 < 4294967296 := Nat.mod_lt _ (by omega)
      have hor := right_or (N % 4294967296) (N / 4294967296 % 4294967296) hx hy
      rw [HV.out] at hor
      have HG0 : Hid (∀ L : List Nat, (∀ d ∈ L, d < 4294967296) → dval 4294967296 L = N → L.getD 0 0 = N % 4294967296) := fun L h1 h2 => by rw [dval_get L h1 0, h2]; simp
      have HG1 : Hid (∀ L : List Nat, (∀ d ∈ L, d < 4294967296) → dval 4294967296 L = N → L.getD 1 0 = N / 4294967296 % 4294967296) := fun L h1 h2 => by rw [dval_get L h1 1, h2]
      clear HV
      generalize N % 4294967296 = x at *
      generalize N / 4294967296 % 4294967296 = y at *
      go_enter Try.func44, Try.ntmps44
      go_wp2_with (first | (go_at_call 58; refine HM2.out.mono ?_; rintro e w1 ⟨rfl, B1⟩) | (go_at_call 60; with_reducible refine (HA.out _).mono ?_; rintro e w2 ⟨aa, ca, LA, rfl, RA, VA, SA, NA, B2⟩; have C0 := Lib.hid (at_z aa LA.length ca LA rfl 0 0 rfl w2 RA.out); have C1 := Lib.hid (at_z aa LA.length ca LA rfl 1 1 rfl w2 RA.out); rw [HG0.out LA SA.out VA.out] at C0; rw [HG1.out LA SA.out VA.out] at C1) | (go_at_call 79; with_reducible refine C0.out.mono ?_; rintro e w' ⟨rfl, rfl⟩) | (go_at_call 79; with_reducible refine C1.out.mono ?_; rintro e w' ⟨rfl, rfl⟩))
      go_ret2
      exact ⟨by rw [← hor]; rfl, B1.on B2⟩
    · rw [if_neg (fun h => h8 h.2)]
      have h8z : (8 : Int) < (a.size : Int) := by omega
      clear hok ha HM
      go_enter Try.func44, Try.ntmps44
      go_wp2_with (go_at_call 58; refine HM2.out.mono ?_; rintro e w1 ⟨rfl, B1⟩)
      go_ret2
      exact ⟨rfl, B1⟩
  · have HM2 := Lib.hid (HM.out false (by simp only [hok, decide_false]))
    rw [if_neg (fun h => hok h.1)]
    clear hok HM
    go_enter Try.func44, Try.ntmps44
    go_wp2_with (go_at_call 58; refine HM2.out.mono ?_; rintro e w1 ⟨rfl, B1⟩)
    go_ret2
    exact ⟨rfl, B1⟩

theorem blen_split (q r j : Nat) (hq : q ≠ 0) (hr : r < 2 ^ j) : blen (q * 2 ^ j + r) = j + blen q := by
  have up : ∀ i, q * 2 ^ j + r < 2 ^ (j + i) ↔ q < 2 ^ i := by
    intro i
    rw [Nat.pow_add, Nat.mul_comm q]
    constructor
    · intro h
      exact Nat.lt_of_mul_lt_mul_left (Nat.lt_of_le_of_lt (Nat.le_add_right _ _) h)
    · intro h
      have : 2 ^ j * (q + 1) ≤ 2 ^ j * 2 ^ i := Nat.mul_le_mul_left _ h
      rw [Nat.mul_add] at this
      omega
  have h1 : blen (q * 2 ^ j + r) ≤ j + blen q := (blen_le _ _).2 ((up _).2 ((blen_le q _).1 (Nat.le_refl _)))
  have h2 : j < blen (q * 2 ^ j + r) := by
    rcases Nat.lt_or_ge j (blen (q * 2 ^ j + r)) with h | h
    · exact h
    · have := (blen_le _ _).1 h
      have h3 := (up 0).1 (by simpa using this)
      omega
  have h3 : blen q ≤ blen (q * 2 ^ j + r) - j := (blen_le _ _).2 ((up _).1 (by
    rw [show j + (blen (q * 2 ^ j + r) - j) = blen (q * 2 ^ j + r) by omega]; exact (blen_le _ _).1 (Nat.le_refl _)))
  omega
theorem top_byte (a : ByteArray) (h : 0 < a.size) : ∃ r, bval a = a[0].toNat * 2 ^ (8 * (a.size - 1)) + r ∧ r < 2 ^ (8 * (a.size - 1)) := by
  have h1 : a.size - 1 < (bytesR a).length := by rw [bytesR_len]; omega
  have h2 : (bytesR a)[a.size - 1] = a[0].toNat := bytesR_get a (a.size - 1) h1 0 (by omega) h
  have h3 := dval_get (bytesR a) (bytesR_lt a) (a.size - 1)
  rw [getD_lt h1, h2] at h3
  have h4 : dval 256 (bytesR a) / 256 ^ (a.size - 1) < 256 := by
    refine Nat.div_lt_of_lt_mul ?_
    have := bval_lt a
    have e : 256 ^ (a.size - 1) * 256 = 256 ^ a.size := by rw [← Nat.pow_succ]; congr 1; omega
    rw [e]; exact this
  rw [Nat.mod_eq_of_lt h4] at h3
  refine ⟨bval a % 256 ^ (a.size - 1), ?_, ?_⟩
  · rw [two_pow_8, h3, Nat.mul_comm]
    exact (Nat.div_add_mod _ _).symm
  · rw [two_pow_8]; exact Nat.mod_lt _ (Nat.pow_pos (by omega))

set_option maxRecDepth 20000 in
theorem Len_any (a : ByteArray) (w : World) (ha : a.size ≤ maxLen) :
    Calls Try.prog 49 #[.string a] w fun e w' => e = .returned (if Ok a then .tuple #[.int .i64 (blen (bval a) : Nat), .int .i64 0] else .tuple #[.int .i64 0, .int .i64 2]) ∧ Below w.heap.size w w' := by
  have HM := Lib.hid fun t ht => may_one a w ha t ht
  by_cases hok : Ok a
  · have HM2 := Lib.hid (HM.out true (by simp [hok]))
    rw [if_pos hok]
    have hz : a.toList.isEmpty = decide (a.size = 0) := isEmpty_size a
    by_cases ha0 : a.size = 0
    · have hR : Hid (blen (bval a) = 0) := by show _ = _; rw [bval_size a ha0]; rfl
      have hz2 : a.toList.isEmpty = true := by rw [hz]; simp [ha0]
      have hz3 : a.toList = [] := (toList_nil a).2 ha0
      clear hz hok ha HM
      go_enter Try.func49, Try.ntmps49
      go_wp2_with (go_at_call 58; refine HM2.out.mono ?_; rintro e w1 ⟨rfl, B1⟩)
      go_ret2
      exact ⟨by rw [hR.out]; rfl, B1⟩
    · have hz2 : a.toList.isEmpty = false := by rw [hz]; simp [ha0]
      have hz3 : ¬ a.toList = [] := fun h => ha0 ((toList_nil a).1 h)
      have hp : 0 < a.size := by omega
      have ha1 := hok.1
      obtain ⟨r, hr1, hr2⟩ := top_byte a hp
      have hq0 : a[0].toNat ≠ 0 := fun e => hok.2 hp (UInt8.toNat_inj.1 e)
      have hbl := blen_split a[0].toNat r (8 * (a.size - 1)) hq0 hr2
      rw [← hr1] at hbl
      have hb8 := UInt8.toNat_lt a[0]
      have HBL : Hid (((8 * (a.size - 1) + blen a[0].toNat : Nat) : Int) = (blen (bval a) : Nat)) := by show _ = _; rw [hbl]
      have hbb := bitLen_blen a[0].toNat (by omega)
      have HBB := Lib.hid hbb
      have hbl8 : blen a[0].toNat ≤ 8 := (blen_le _ _).2 (by omega)
      have hbl9 : Lib.bitLen a[0].toNat ≤ 8 := by rw [hbb]; exact hbl8
      clear hz hok ha HM hr1 hr2 hbl hq0 hbb
      go_enter Try.func49, Try.ntmps49
      go_wp2_with (first | (go_at_call 58; refine HM2.out.mono ?_; rintro e w1 ⟨rfl, B1⟩) | (go_at_call 80; refine (Try.bits_Len8 _ _ (by omega) (by omega)).mono ?_; rintro e w2 ⟨rfl, hw⟩; have hw2 := hw.symm; subst hw2; rw [Int.toNat_natCast]))
      go_ret2
      refine ⟨?_, B1⟩
      rw [← HBL.out, ← HBB.out]
      have e : (8 : Int) * ((a.size : Int) - 1) + (Lib.bitLen a[0].toNat : Int) = ((8 * (a.size - 1) + Lib.bitLen a[0].toNat : Nat) : Int) := by omega
      rw [← e]
      rfl
  · have HM2 := Lib.hid (HM.out false (by simp only [hok, decide_false]))
    rw [if_neg hok]
    clear hok HM
    go_enter Try.func49, Try.ntmps49
    go_wp2_with (go_at_call 58; refine HM2.out.mono ?_; rintro e w1 ⟨rfl, B1⟩)
    go_ret2
    exact ⟨rfl, B1⟩

theorem and_one8 (t : Nat) (ht : t < 256) : bits .and .u8 (t : Int) 1 = ((t % 2 : Nat) : Int) := by
  have key : bits .and .u8 (t : Int) 1 = IntKind.u8.wrap ((BitVec.ofNat 8 t &&& BitVec.ofNat 8 1).toNat : Int) := by
    rw [← BitVec.ofInt_natCast]; rfl
  have hw : ∀ z : Int, IntKind.u8.wrap z = z % 256 := fun z => rfl
  rw [key, hw, BitVec.toNat_and, BitVec.toNat_ofNat, BitVec.toNat_ofNat, Nat.mod_eq_of_lt (a := t) (by omega)]
  have : t &&& 1 % 2 ^ 8 = t % 2 := Nat.and_one_is_mod t
  rw [this]; omega
set_option maxRecDepth 20000 in
theorem Bit_any (a : ByteArray) (i : Int) (hi : -9223372036854775808 ≤ i ∧ i < 9223372036854775808) (w : World) (ha : a.size ≤ maxLen) :
    Calls Try.prog 51 #[.string a, .int .i64 i] w fun e w' => e = .returned (if Ok a ∧ 0 ≤ i then .tuple #[.int .u8 ((bval a / 2 ^ i.toNat % 2 : Nat) : Int), .int .i64 0] else .tuple #[.int .u8 0, .int .i64 2]) ∧ Below w.heap.size w w' := by
  have HM := Lib.hid fun t ht => may_one a w ha t ht
  obtain ⟨hi1, hi2⟩ := hi
  by_cases hok : Ok a
  · have HM2 := Lib.hid (HM.out true (by simp [hok]))
    have ha1 := hok.1
    by_cases h0 : 0 ≤ i
    · rw [if_pos ⟨hok, h0⟩]
      obtain ⟨j, rfl⟩ : ∃ j : Nat, i = (j : Int) := ⟨i.toNat, by omega⟩
      rw [Int.toNat_natCast]
      obtain ⟨q, hq⟩ : ∃ q, q = j / 8 := ⟨_, rfl⟩
      have e1 : (j : Int) / 8 = (q : Int) := by omega
      have hq6 : (q : Int) ≤ 1152921504606846976 := by omega
      have hnz : ¬ (j : Int) < 0 := by omega
      clear hi1
      by_cases hlt : q < a.size
      · obtain ⟨m, hm⟩ : ∃ m, m = a.size - 1 - j / 8 := ⟨_, rfl⟩
        have hms : m < a.size := by omega
        have hv := bit_val a j m hm hms (by omega)
        rw [← hv]
        obtain ⟨r, hr⟩ : ∃ r, r = j % 8 := ⟨_, rfl⟩
        have e2 : (j : Int) % 8 = (r : Int) := by omega
        have e3 : (a.size : Int) - 1 - (q : Int) = (m : Int) := by omega
        rw [← hr]
        have hx := UInt8.toNat_lt a[m]
        have hand := and_one8 (a[m].toNat / 2 ^ r) (Nat.lt_of_le_of_lt (Nat.div_le_self _ _) (by omega))
        have hc : ((a[m].toNat / 2 ^ r : Nat) : Int) = (a[m].toNat : Int) / 2 ^ r := by push_cast; rfl
        rw [hc] at hand
        have HAND := Lib.hid hand
        have hq7 : (q : Int) ≤ 1000000 := by omega
        clear hv hm hand hc hok ha HM hq hr hi2 h0 hq6
        go_enter Try.func51, Try.ntmps51
        go_wp2_with (go_at_call 58; refine HM2.out.mono ?_; rintro e w1 ⟨rfl, B1⟩)
        go_ret2
        exact ⟨by rw [← HAND.out]; rfl, B1⟩
      · rw [bit_none a j (by omega)]
        have hge : (a.size : Int) ≤ (q : Int) := by omega
        clear hok ha HM hq hi2 h0
        go_enter Try.func51, Try.ntmps51
        go_wp2_with (go_at_call 58; refine HM2.out.mono ?_; rintro e w1 ⟨rfl, B1⟩)
        go_ret2
        exact ⟨rfl, B1⟩
    · rw [if_neg (fun h => h0 h.2)]
      have h0' : i < 0 := by omega
      clear hok ha HM hi1 hi2 h0
      go_enter Try.func51, Try.ntmps51
      go_wp2_with (go_at_call 58; refine HM2.out.mono ?_; rintro e w1 ⟨rfl, B1⟩)
      go_ret2
      exact ⟨rfl, B1⟩
  · have HM2 := Lib.hid (HM.out false (by simp only [hok, decide_false]))
    rw [if_neg (fun h => hok h.1)]
    clear hok HM hi1 hi2
    go_enter Try.func51, Try.ntmps51
    go_wp2_with (go_at_call 58; refine HM2.out.mono ?_; rintro e w1 ⟨rfl, B1⟩)
    go_ret2
    exact ⟨rfl, B1⟩
end Go.Proofs.Ytfhkpkebiinglaa
