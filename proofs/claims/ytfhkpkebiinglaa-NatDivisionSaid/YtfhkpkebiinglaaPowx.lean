/-
  Pow at every input, the program's and the reference's; the reference's Bit and Len.
-/
import Derived.Test.YtfhkpkebiinglaaPow
namespace Go.Proofs.Ytfhkpkebiinglaa
open Go.RowKit

theorem sm_zero : Sm 0 := Sm.of_lt (k := 1) (by omega) (by omega)
theorem end_one : endN 1 = .tuple #[.string ⟨#[1]⟩, .int .i64 0] := by rw [sm_one.endN, enc_1]
theorem end_zero : endN 0 = .tuple #[.string ⟨#[]⟩, .int .i64 0] := by rw [sm_zero.endN, enc_zero]
/-- What Pow answers. -/
def powN (x : Nat) (n : Int) : Value := if n < 0 then .tuple #[.string ⟨#[]⟩, .int .i64 2] else endN (x ^ n.toNat)

set_option maxRecDepth 20000 in
theorem Pow_ok (a : ByteArray) (hok : Ok a) (n : Int) (w : World) :
    Calls Try.prog 55 #[.string a, .int .i64 n] w fun e w' => e = .returned (powN (bval a) n) ∧ Below w.heap.size w w' := by
  have he := enc_bval a hok
  have hsx := Sm.of_ok hok
  have hma : a.size ≤ maxLen := by have := hok.1; unfold maxLen; omega
  have HM := Lib.hid (may_one a w hma true (by simp [hok]))
  clear hma
  by_cases hneg : n < 0
  · have hR : Hid (powN (bval a) n = .tuple #[.string ⟨#[]⟩, .int .i64 2]) := if_pos hneg
    clear hok he hsx
    go_enter Try.func55, Try.ntmps55
    go_wp2_with (first | (go_at_call 58; refine HM.out.mono ?_; rintro e w1 ⟨rfl, B1⟩))
    go_ret2
    exact ⟨by rw [hR.out]; rfl, B1⟩
  · obtain ⟨m, rfl⟩ : ∃ m : Nat, n = (m : Int) := ⟨n.toNat, by omega⟩
    have hP : powN (bval a) (m : Int) = endN (bval a ^ m) := by unfold powN; rw [if_neg hneg, Int.toNat_natCast]
    rw [hP]
    have hnz0 : ¬ (m : Int) < 0 := hneg
    clear hP hneg
    generalize hV : endN (bval a ^ m) = V
    have HV := Lib.hid hV
    clear hV
    by_cases hm0 : m = 0
    · subst hm0
      have hR : Hid (V = .tuple #[.string ⟨#[1]⟩, .int .i64 0]) := by show _ = _; rw [← HV.out, Nat.pow_zero, end_one]
      clear hok he hsx
      go_enter Try.func55, Try.ntmps55
      go_wp2_with (first | (go_at_call 58; refine HM.out.mono ?_; rintro e w1 ⟨rfl, B1⟩))
      go_ret2
      exact ⟨by rw [hR.out]; rfl, B1⟩
    · have hnb : (((m : Nat) : Int) == 0) = false := by rw [beq_eq_false_iff_ne]; omega
      by_cases h1 : bval a = 1
      · have ha : a = ⟨#[1]⟩ := by rw [← he, h1, enc_1]
        have hR : Hid (V = .tuple #[.string ⟨#[1]⟩, .int .i64 0]) := by show _ = _; rw [← HV.out, h1, Nat.one_pow, end_one]
        clear hok he hsx h1 HV
        subst ha
        go_enter Try.func55, Try.ntmps55
        go_wp2_with (first | (go_at_call 58; refine HM.out.mono ?_; rintro e w1 ⟨rfl, B1⟩))
        go_ret2
        exact ⟨by rw [hR.out]; rfl, B1⟩
      · by_cases h0 : bval a = 0
        · have ha : a = ⟨#[]⟩ := by rw [← he, h0, enc_zero]
          have hR : Hid (V = .tuple #[.string ⟨#[]⟩, .int .i64 0]) := by show _ = _; rw [← HV.out, h0, Nat.zero_pow (Nat.pos_of_ne_zero hm0), end_zero]
          clear hok he hsx h0 h1 HV
          subst ha
          go_enter Try.func55, Try.ntmps55
          go_wp2_with (first | (go_at_call 58; refine HM.out.mono ?_; rintro e w1 ⟨rfl, B1⟩))
          go_ret2
          exact ⟨by rw [hR.out]; rfl, B1⟩
        · by_cases hbig : m ≤ 131072
          · have h := Pow_main (bval a) m (by omega) hsx hbig (Nat.pos_of_ne_zero hm0) w
            rw [he, HV.out] at h
            exact h
          · have hR : Hid (V = .tuple #[.string ⟨#[]⟩, .int .i64 4]) := HV.out.symm.trans (not_sm (pow_long (by omega) (by omega)))
            have hne1 := ne_one (x := bval a) h1
            obtain ⟨hz3, hz2⟩ := ne_nil (x := bval a) h0
            rw [he] at hne1 hz3 hz2
            have hbz : (131072 : Int) < (m : Int) := by omega
            clear hok he hsx h0 h1 hbig hm0
            go_enter Try.func55, Try.ntmps55
            go_wp2_with (first | (go_at_call 58; refine HM.out.mono ?_; rintro e w1 ⟨rfl, B1⟩))
            go_ret2
            exact ⟨by rw [hR.out]; rfl, B1⟩

set_option maxRecDepth 20000 in
theorem rPow_ok (a : ByteArray) (hok : Ok a) (n : Int) (w : World) :
    Calls Try.prog 56 #[.string a, .int .i64 n] w fun e w' => e = .returned (powN (bval a) n) ∧ Below w.heap.size w w' := by
  have he := enc_bval a hok
  have hsx := Sm.of_ok hok
  have hma : a.size ≤ maxLen := by have := hok.1; unfold maxLen; omega

  clear hma
  by_cases hneg : n < 0
  · have hR : Hid (powN (bval a) n = .tuple #[.string ⟨#[]⟩, .int .i64 2]) := if_pos hneg
    clear hok he hsx
    go_enter Try.func56, Try.ntmps56
    go_wp2_with (first | fail)
    go_ret2
    exact ⟨by rw [hR.out]; rfl, Below.refl _ _⟩
  · obtain ⟨m, rfl⟩ : ∃ m : Nat, n = (m : Int) := ⟨n.toNat, by omega⟩
    have hP : powN (bval a) (m : Int) = endN (bval a ^ m) := by unfold powN; rw [if_neg hneg, Int.toNat_natCast]
    rw [hP]
    have hnz0 : ¬ (m : Int) < 0 := hneg
    clear hP hneg
    generalize hV : endN (bval a ^ m) = V
    have HV := Lib.hid hV
    clear hV
    by_cases hm0 : m = 0
    · subst hm0
      have hR : Hid (V = .tuple #[.string ⟨#[1]⟩, .int .i64 0]) := by show _ = _; rw [← HV.out, Nat.pow_zero, end_one]
      clear hok he hsx
      go_enter Try.func56, Try.ntmps56
      go_wp2_with (first | fail)
      go_ret2
      exact ⟨by rw [hR.out]; rfl, Below.refl _ _⟩
    · have hnb : (((m : Nat) : Int) == 0) = false := by rw [beq_eq_false_iff_ne]; omega
      by_cases h1 : bval a = 1
      · have ha : a = ⟨#[1]⟩ := by rw [← he, h1, enc_1]
        have hR : Hid (V = .tuple #[.string ⟨#[1]⟩, .int .i64 0]) := by show _ = _; rw [← HV.out, h1, Nat.one_pow, end_one]
        clear hok he hsx h1 HV
        subst ha
        go_enter Try.func56, Try.ntmps56
        go_wp2_with (first | fail)
        go_ret2
        exact ⟨by rw [hR.out]; rfl, Below.refl _ _⟩
      · by_cases h0 : bval a = 0
        · have ha : a = ⟨#[]⟩ := by rw [← he, h0, enc_zero]
          have hR : Hid (V = .tuple #[.string ⟨#[]⟩, .int .i64 0]) := by show _ = _; rw [← HV.out, h0, Nat.zero_pow (Nat.pos_of_ne_zero hm0), end_zero]
          clear hok he hsx h0 h1 HV
          subst ha
          go_enter Try.func56, Try.ntmps56
          go_wp2_with (first | fail)
          go_ret2
          exact ⟨by rw [hR.out]; rfl, Below.refl _ _⟩
        · by_cases hbig : m ≤ 131072
          · have h := rPow_main (bval a) m (by omega) hsx hbig (Nat.pos_of_ne_zero hm0) w
            rw [he, HV.out] at h
            exact h
          · have hR : Hid (V = .tuple #[.string ⟨#[]⟩, .int .i64 4]) := HV.out.symm.trans (not_sm (pow_long (by omega) (by omega)))
            have hne1 := ne_one (x := bval a) h1
            obtain ⟨hz3, hz2⟩ := ne_nil (x := bval a) h0
            rw [he] at hne1 hz3 hz2
            have hbz : (131072 : Int) < (m : Int) := by omega
            clear hok he hsx h0 h1 hbig hm0
            go_enter Try.func56, Try.ntmps56
            go_wp2_with (first | fail)
            go_ret2
            exact ⟨by rw [hR.out]; rfl, Below.refl _ _⟩

set_option maxRecDepth 20000 in
theorem Pow_any (a : ByteArray) (n : Int) (w : World) (ha : a.size ≤ maxLen) :
    Calls Try.prog 55 #[.string a, .int .i64 n] w fun e w' => e = .returned (if Ok a then powN (bval a) n else .tuple #[.string ⟨#[]⟩, .int .i64 2]) ∧ Below w.heap.size w w' := by
  by_cases hok : Ok a
  · rw [if_pos hok]; exact Pow_ok a hok n w
  · rw [if_neg hok]
    have HM2 := Lib.hid (may_one a w ha false (by simp only [hok, decide_false]))
    clear hok ha
    go_enter Try.func55, Try.ntmps55
    go_wp2_with (go_at_call 58; refine HM2.out.mono ?_; rintro e w1 ⟨rfl, B1⟩)
    go_ret2
    exact ⟨rfl, B1⟩

/-- A bit of a number. -/
theorem bit_val (s : ByteArray) (i m : Nat) (hm : m = s.size - 1 - i / 8) (hms : m < s.size) (hi : i / 8 < s.size) : s[m].toNat / 2 ^ (i % 8) % 2 = bval s / 2 ^ i % 2 := by
  have h1 : i / 8 < (bytesR s).length := by rw [bytesR_len]; exact hi
  rw [← bytesR_get s (i / 8) h1 m hm hms, ← getD_lt h1, dval_get (bytesR s) (bytesR_lt s)]
  show bval s / _ % 256 / _ % 2 = _
  have e1 : (2 : Nat) ^ i = 256 ^ (i / 8) * 2 ^ (i % 8) := by rw [← two_pow_8, ← Nat.pow_add]; congr 1; omega
  have e2 : (256 : Nat) = 2 ^ (i % 8) * (2 ^ (7 - i % 8) * 2) := by
    rw [← Nat.pow_succ, ← Nat.pow_add, show i % 8 + (7 - i % 8 + 1) = 8 by omega]
  rw [e1, ← Nat.div_div_eq_div_mul]
  generalize bval s / 256 ^ (i / 8) = M
  rw [e2, Nat.mod_mul_right_div_self, Nat.mod_mul_left_mod]
theorem bit_none (s : ByteArray) (i : Nat) (hi : s.size ≤ i / 8) : bval s / 2 ^ i % 2 = 0 := by
  have : bval s / 2 ^ i = 0 := by
    refine Nat.div_eq_of_lt (Nat.lt_of_lt_of_le (bval_lt s) ?_)
    rw [← two_pow_8]
    exact Nat.pow_le_pow_right (by omega) (by omega)
  rw [this]
set_option maxRecDepth 20000 in
theorem rBit_any (s : ByteArray) (hs : s.size ≤ 1000000) (i : Nat) (hi63 : i < 9223372036854775808) (w : World) :
    Calls Try.prog 54 #[.string s, .int .i64 (i : Int)] w fun e w' => e = .returned (.int .i64 ((bval s / 2 ^ i % 2 : Nat) : Int)) ∧ w = w' := by
  obtain ⟨q, hq⟩ : ∃ q, q = i / 8 := ⟨_, rfl⟩
  have e1 : (i : Int) / 8 = (q : Int) := by omega
  by_cases hlt : q < s.size
  · obtain ⟨m, hm⟩ : ∃ m, m = s.size - 1 - i / 8 := ⟨_, rfl⟩
    have hms : m < s.size := by omega
    have hv := bit_val s i m hm hms (by omega)
    rw [← hv]
    obtain ⟨r, hr⟩ : ∃ r, r = i % 8 := ⟨_, rfl⟩
    have e2 : (i : Int) % 8 = (r : Int) := by omega
    have e3 : (s.size : Int) - 1 - (q : Int) = (m : Int) := by omega
    rw [← hr]
    have hx := UInt8.toNat_lt s[m]
    have hand := and_one (s[m].toNat / 2 ^ r) (Nat.lt_of_le_of_lt (Nat.div_le_self _ _) (by omega))
    have hc : ((s[m].toNat / 2 ^ r : Nat) : Int) = (s[m].toNat : Int) / 2 ^ r := by push_cast; rfl
    rw [hc] at hand
    have HAND := Lib.hid hand
    have hwx : wrap64 (s[m].toNat : Int) = (s[m].toNat : Int) := by unfold wrap64; omega
    have hq6 : (q : Int) ≤ 1000000 := by omega
    clear hv hm hand hc hi63
    clear hq hr
    go_enter Try.func54, Try.ntmps54
    go_wp2
    go_ret
    exact ⟨by rw [← HAND.out]; rfl, rfl⟩
  · rw [bit_none s i (by omega)]
    have hge : (s.size : Int) ≤ (q : Int) := by omega
    have hq6 : (q : Int) ≤ 1152921504606846976 := by omega
    clear hi63 hq
    go_enter Try.func54, Try.ntmps54
    go_wp2
    go_ret
    exact ⟨rfl, rfl⟩

/-- Too many bits times the power: too long. -/
theorem pow_far {x m : Nat} (hm : 0 < m) (h : 131072 / m + 8 < blen x) : ¬ Sm (x ^ m) := fun hs => by
  obtain ⟨q, hq⟩ : ∃ q, q = 131072 / m := ⟨_, rfl⟩
  have h1 : ¬ blen x ≤ q + 8 := by omega
  rw [blen_le] at h1
  have h2 : 2 ^ (q + 8) ≤ x := Nat.le_of_not_lt h1
  have h3 : (2 ^ (q + 8)) ^ m ≤ x ^ m := Nat.pow_le_pow_left h2 m
  rw [← Nat.pow_mul] at h3
  have h4 : 131072 ≤ (q + 8) * m := by
    have := Nat.div_add_mod 131072 m
    have hlt := Nat.mod_lt 131072 hm
    rw [← hq] at this
    rw [Nat.add_mul, Nat.mul_comm q]
    omega
  exact pow_long (x := 2) (Nat.le_refl _) h4 (hs.le h3)
theorem powN_is (x : Nat) (n : Int) : ∃ s e, powN x n = .tuple #[.string s, .int .i64 e] := by
  unfold powN endN
  split; exact ⟨_, _, rfl⟩; exact ⟨_, _, rfl⟩
/-- The greatest bit. -/
theorem blen_top_bit (x i : Nat) (h : x / 2 ^ i % 2 = 1) (hx : x < 2 ^ (i + 1)) : blen x = i + 1 := by
  have h1 : blen x ≤ i + 1 := (blen_le _ _).2 hx
  have h2 : ¬ blen x ≤ i := fun h' => by
    have := (blen_le _ _).1 h'
    rw [Nat.div_eq_of_lt this] at h
    omega
  omega
theorem bit_down (x i : Nat) (h : x / 2 ^ i % 2 = 0) (hx : x < 2 ^ (i + 1)) : x < 2 ^ i := by
  have h1 : x / 2 ^ i < 2 := Nat.div_lt_of_lt_mul (by rw [Nat.pow_succ] at hx; exact hx)
  have h2 : x / 2 ^ i = 0 := by
    generalize x / 2 ^ i = y at h h1 ⊢
    omega
  have h3 := Nat.div_add_mod x (2 ^ i)
  have h4 := Nat.mod_lt x (Nat.two_pow_pos i)
  rw [h2] at h3
  omega
set_option maxRecDepth 20000 in
theorem rLen_any (s : ByteArray) (hs : s.size ≤ 1000000) (w : World) :
    Calls Try.prog 52 #[.string s] w fun e w' => e = .returned (.int .i64 (blen (bval s) : Nat)) ∧ w = w' := by
  have HB := Lib.hid fun i hi W => rBit_any s hs i hi W
  have HLT : Hid (bval s < 2 ^ (8 * s.size)) := by show _ < _; rw [two_pow_8]; exact bval_lt s
  generalize bval s = x at *
  go_enter Try.func52, Try.ntmps52
  go_wp2_with fail
  go_loopw [3] (fun vi wr => ∃ k, k ≤ 8 * s.size ∧ vi = .int .i64 ((k : Nat) : Int) ∧ Hid (x < 2 ^ k) ∧ Hid (w = wr)) (fun vi _ => (intOf vi).toNat)
  case atStart => exact ⟨8 * s.size, Nat.le_refl _, by congr 1, HLT, rfl⟩
  case round =>
    obtain ⟨k, hk, rfl, HX, HW⟩ := hrel
    rcases k with _ | i
    · have h := HX.out
      have hx0 : x = 0 := by simpa using h
      have HZ : Hid (blen x = 0) := by show _ = _; rw [hx0]; rfl
      clear h hx0 HB
      go_wp2
      go_ret
      exact ⟨by rw [HZ.out]; rfl, HW.out⟩
    · have hi1 : ((i + 1 : Nat) : Int) - 1 = (i : Int) := by omega
      have hkp : (0 : Int) < ((i + 1 : Nat) : Int) := by omega
      have HB2 := Lib.hid fun W => HB.out i (by omega) W
      by_cases hb : x / 2 ^ i % 2 = 1
      · rw [hb] at HB2
        have HR := Lib.hid (blen_top_bit x i hb HX.out)
        clear hb HB
        go_wp2_with (go_at_call 54; refine (HB2.out _).mono ?_; rintro e w' ⟨rfl, rfl⟩)
        go_ret
        exact ⟨by rw [HR.out]; rfl, HW.out⟩
      · have hb0 : x / 2 ^ i % 2 = 0 := by omega
        rw [hb0] at HB2
        have HN := Lib.hid (bit_down x i hb0 HX.out)
        clear hb hb0 HB
        go_wp2_with (go_at_call 54; refine (HB2.out _).mono ?_; rintro e w' ⟨rfl, rfl⟩)
        go_roundw
        case rel => exact ⟨i, by omega, by congr 1, HN, HW⟩
        case measure => simp [intOf]

end Go.Proofs.Ytfhkpkebiinglaa
