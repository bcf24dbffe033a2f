/- 2.7: whatever number and two distances: shifted up and down again it is the same number; the power of a sum is the powers' product; and the calls that each statement asks besides answer as the document has it. Conditions: none. -/
import Derived.Test.YtfhkpkebiinglaaPowx
namespace Go.Proofs.Ytfhkpkebiinglaa
open Go.ChangeShapes Go.ChangeMaps Go.WideShapes Go.ChangeAt Go.RowKit Go.Joins
set_option linter.unusedVariables false

/-- Where the back call is made: it gives the number again. -/
def BackOk (a s : ByteArray) (n e : Int) : Prop := e = 0 → 0 ≤ n → (∀ w : World, Calls Try.prog 28 #[.string s, .int .i64 (-n)] w fun e' w' => e' = .returned (.tuple #[.string a, .int .i64 0]) ∧ Below w.heap.size w w')
set_option maxRecDepth 100000 in
set_option maxHeartbeats 2000000 in
theorem shifts_out (a s : ByteArray) (n m e : Int) (hs1 : n < 9223372036854775808) (hout : n < 0 ∨ m < 0 ∨ 1048576 < n ∨ 1048576 < m) (HS : Hid (∀ w : World, Calls Try.prog 28 #[.string a, .int .i64 n] w fun e' w' => e' = .returned (.tuple #[.string s, .int .i64 e]) ∧ Below w.heap.size w w')) (HB : Hid (BackOk a s n e)) (w : World) :
    Calls Try.prog 16 #[.string a, .int .i64 n, .int .i64 m] w fun e' w' => e' = .returned (.bool true) ∧ Below w.heap.size w w' := by
  by_cases he : e = 0
  · subst he
    by_cases hn : 0 ≤ n
    · have HK := Lib.hid (HB.out rfl hn)
      have hw1 : IntKind.i64.wrap (-n) = -n := by rw [IntKind.wrap_i64]; omega
      have hw2 : wrap64 (-n) = -n := by unfold wrap64; omega
      clear HB hs1
      rcases hout with h | h | h | h
      · omega
      all_goals
        go_enter Try.func16, Try.ntmps16
        go_wp2_with (first | (go_at_call 28; with_reducible refine (HS.out _).mono ?_; rintro e' w1 ⟨rfl, B1⟩) | (go_at_call 28; with_reducible refine (HK.out _).mono ?_; rintro e' w2 ⟨rfl, B2⟩) | (go_at_call 19; refine (awake_any _).mono ?_; rintro e wz ⟨rfl, BZ⟩))
        all_goals (go_ret; first | exact ⟨rfl, B1.on BZ⟩ | exact ⟨rfl, (B1.on B2).on BZ⟩ | exact ⟨rfl, (((B1.on B3).on B4).on B5).on BZ⟩ | exact ⟨rfl, ((((B1.on B2).on B3).on B4).on B5).on BZ⟩ | exact ⟨rfl, ((((B1.on B3).on B4).on B5).on B6).on BZ⟩ | exact ⟨rfl, (((((B1.on B2).on B3).on B4).on B5).on B6).on BZ⟩)
    · have hn2 : n < 0 := by omega
      clear HB hout hn hs1
      have HK := HS
      go_enter Try.func16, Try.ntmps16
      go_wp2_with (first | (go_at_call 28; with_reducible refine (HS.out _).mono ?_; rintro e' w1 ⟨rfl, B1⟩) | (go_at_call 28; with_reducible refine (HK.out _).mono ?_; rintro e' w2 ⟨rfl, B2⟩) | (go_at_call 19; refine (awake_any _).mono ?_; rintro e wz ⟨rfl, BZ⟩))
      all_goals (go_ret; first | exact ⟨rfl, B1.on BZ⟩ | exact ⟨rfl, (B1.on B2).on BZ⟩ | exact ⟨rfl, (((B1.on B3).on B4).on B5).on BZ⟩ | exact ⟨rfl, ((((B1.on B2).on B3).on B4).on B5).on BZ⟩ | exact ⟨rfl, ((((B1.on B3).on B4).on B5).on B6).on BZ⟩ | exact ⟨rfl, (((((B1.on B2).on B3).on B4).on B5).on B6).on BZ⟩)
  · have he2 : (e == 0) = false := by rw [beq_eq_false_iff_ne]; exact he
    have HK := HS
    clear HB hs1
    rcases hout with h | h | h | h
    all_goals
      go_enter Try.func16, Try.ntmps16
      go_wp2_with (first | (go_at_call 28; with_reducible refine (HS.out _).mono ?_; rintro e' w1 ⟨rfl, B1⟩) | (go_at_call 28; with_reducible refine (HK.out _).mono ?_; rintro e' w2 ⟨rfl, B2⟩) | (go_at_call 19; refine (awake_any _).mono ?_; rintro e wz ⟨rfl, BZ⟩))
      all_goals (go_ret; first | exact ⟨rfl, B1.on BZ⟩ | exact ⟨rfl, (B1.on B2).on BZ⟩ | exact ⟨rfl, (((B1.on B3).on B4).on B5).on BZ⟩ | exact ⟨rfl, ((((B1.on B2).on B3).on B4).on B5).on BZ⟩ | exact ⟨rfl, ((((B1.on B3).on B4).on B5).on B6).on BZ⟩ | exact ⟨rfl, (((((B1.on B2).on B3).on B4).on B5).on B6).on BZ⟩)
set_option maxRecDepth 100000 in
set_option maxHeartbeats 2000000 in
theorem shifts_in (a s sx sy sz : ByteArray) (n m e ex ey ez : Int) (hn0 : 0 ≤ n) (hm0 : 0 ≤ m) (hn1 : n ≤ 1048576) (hm1 : m ≤ 1048576) (HS : Hid (∀ w : World, Calls Try.prog 28 #[.string a, .int .i64 n] w fun e' w' => e' = .returned (.tuple #[.string s, .int .i64 e]) ∧ Below w.heap.size w w')) (HB : Hid (BackOk a s n e))
    (HX : Hid (∀ w : World, Calls Try.prog 55 #[.string a, .int .i64 n] w fun e' w' => e' = .returned (.tuple #[.string sx, .int .i64 ex]) ∧ Below w.heap.size w w')) (HY : Hid (∀ w : World, Calls Try.prog 55 #[.string a, .int .i64 m] w fun e' w' => e' = .returned (.tuple #[.string sy, .int .i64 ey]) ∧ Below w.heap.size w w')) (HZ : Hid (∀ w : World, Calls Try.prog 55 #[.string a, .int .i64 (n + m)] w fun e' w' => e' = .returned (.tuple #[.string sz, .int .i64 ez]) ∧ Below w.heap.size w w')) (hcase : (ex = 0 ∧ ey = 0 ∧ Hid (∀ w : World, Calls Try.prog 20 #[.string sx, .string sy] w fun e' w' => e' = .returned (.tuple #[.string sz, .int .i64 ez]) ∧ Below w.heap.size w w')) ∨ ((ex ≠ 0 ∨ ey ≠ 0) ∧ ez ≠ 0)) (w : World) :
    Calls Try.prog 16 #[.string a, .int .i64 n, .int .i64 m] w fun e' w' => e' = .returned (.bool true) ∧ Below w.heap.size w w' := by
  rcases hcase with ⟨rfl, rfl, HP⟩ | ⟨hne, hez⟩
  · by_cases he : e = 0
    · subst he
      have HK := Lib.hid (HB.out rfl hn0)
      clear HB
      go_enter Try.func16, Try.ntmps16
      go_wp2_with (first | (go_at_call 28; with_reducible refine (HS.out _).mono ?_; rintro e' w1 ⟨rfl, B1⟩) | (go_at_call 28; with_reducible refine (HK.out _).mono ?_; rintro e' w2 ⟨rfl, B2⟩) | (go_at_call 55; with_reducible refine (HX.out _).mono ?_; rintro e' w3 ⟨rfl, B3⟩) | (go_at_call 55; with_reducible refine (HY.out _).mono ?_; rintro e' w4 ⟨rfl, B4⟩) | (go_at_call 55; with_reducible refine (HZ.out _).mono ?_; rintro e' w5 ⟨rfl, B5⟩) | (go_at_call 20; with_reducible refine (HP.out _).mono ?_; rintro e' w6 ⟨rfl, B6⟩) | (go_at_call 19; refine (awake_any _).mono ?_; rintro e wz ⟨rfl, BZ⟩))
      all_goals (go_ret; first | exact ⟨rfl, B1.on BZ⟩ | exact ⟨rfl, (B1.on B2).on BZ⟩ | exact ⟨rfl, (((B1.on B3).on B4).on B5).on BZ⟩ | exact ⟨rfl, ((((B1.on B2).on B3).on B4).on B5).on BZ⟩ | exact ⟨rfl, ((((B1.on B3).on B4).on B5).on B6).on BZ⟩ | exact ⟨rfl, (((((B1.on B2).on B3).on B4).on B5).on B6).on BZ⟩)
    · have he2 : (e == 0) = false := by rw [beq_eq_false_iff_ne]; exact he
      have HK := HS
      clear HB
      go_enter Try.func16, Try.ntmps16
      go_wp2_with (first | (go_at_call 28; with_reducible refine (HS.out _).mono ?_; rintro e' w1 ⟨rfl, B1⟩) | (go_at_call 28; with_reducible refine (HK.out _).mono ?_; rintro e' w2 ⟨rfl, B2⟩) | (go_at_call 55; with_reducible refine (HX.out _).mono ?_; rintro e' w3 ⟨rfl, B3⟩) | (go_at_call 55; with_reducible refine (HY.out _).mono ?_; rintro e' w4 ⟨rfl, B4⟩) | (go_at_call 55; with_reducible refine (HZ.out _).mono ?_; rintro e' w5 ⟨rfl, B5⟩) | (go_at_call 20; with_reducible refine (HP.out _).mono ?_; rintro e' w6 ⟨rfl, B6⟩) | (go_at_call 19; refine (awake_any _).mono ?_; rintro e wz ⟨rfl, BZ⟩))
      all_goals (go_ret; first | exact ⟨rfl, B1.on BZ⟩ | exact ⟨rfl, (B1.on B2).on BZ⟩ | exact ⟨rfl, (((B1.on B3).on B4).on B5).on BZ⟩ | exact ⟨rfl, ((((B1.on B2).on B3).on B4).on B5).on BZ⟩ | exact ⟨rfl, ((((B1.on B3).on B4).on B5).on B6).on BZ⟩ | exact ⟨rfl, (((((B1.on B2).on B3).on B4).on B5).on B6).on BZ⟩)
  · have HP := HS
    have hez1 : (ez == 0) = false := by rw [beq_eq_false_iff_ne]; exact hez
    have hez2 : (ez != 0) = true := by rw [bne_iff_ne]; exact hez
    have hcx : (ex != 0) = true ∨ ((ex != 0) = false ∧ (ey != 0) = true) := by
      by_cases h : ex = 0
      · right
        refine ⟨by simp [h], ?_⟩
        rw [bne_iff_ne]
        rcases hne with h1 | h1
        · exact absurd h h1
        · exact h1
      · left; rw [bne_iff_ne]; exact h
    clear hne hez
    by_cases he : e = 0
    · subst he
      have HK := Lib.hid (HB.out rfl hn0)
      clear HB
      rcases hcx with h1 | ⟨h1, h2⟩
      all_goals
        go_enter Try.func16, Try.ntmps16
        go_wp2_with (first | (go_at_call 28; with_reducible refine (HS.out _).mono ?_; rintro e' w1 ⟨rfl, B1⟩) | (go_at_call 28; with_reducible refine (HK.out _).mono ?_; rintro e' w2 ⟨rfl, B2⟩) | (go_at_call 55; with_reducible refine (HX.out _).mono ?_; rintro e' w3 ⟨rfl, B3⟩) | (go_at_call 55; with_reducible refine (HY.out _).mono ?_; rintro e' w4 ⟨rfl, B4⟩) | (go_at_call 55; with_reducible refine (HZ.out _).mono ?_; rintro e' w5 ⟨rfl, B5⟩) | (go_at_call 20; with_reducible refine (HP.out _).mono ?_; rintro e' w6 ⟨rfl, B6⟩) | (go_at_call 19; refine (awake_any _).mono ?_; rintro e wz ⟨rfl, BZ⟩))
        all_goals (go_ret; first | exact ⟨rfl, B1.on BZ⟩ | exact ⟨rfl, (B1.on B2).on BZ⟩ | exact ⟨rfl, (((B1.on B3).on B4).on B5).on BZ⟩ | exact ⟨rfl, ((((B1.on B2).on B3).on B4).on B5).on BZ⟩ | exact ⟨rfl, ((((B1.on B3).on B4).on B5).on B6).on BZ⟩ | exact ⟨rfl, (((((B1.on B2).on B3).on B4).on B5).on B6).on BZ⟩)
    · have he2 : (e == 0) = false := by rw [beq_eq_false_iff_ne]; exact he
      have HK := HS
      clear HB
      rcases hcx with h1 | ⟨h1, h2⟩
      all_goals
        go_enter Try.func16, Try.ntmps16
        go_wp2_with (first | (go_at_call 28; with_reducible refine (HS.out _).mono ?_; rintro e' w1 ⟨rfl, B1⟩) | (go_at_call 28; with_reducible refine (HK.out _).mono ?_; rintro e' w2 ⟨rfl, B2⟩) | (go_at_call 55; with_reducible refine (HX.out _).mono ?_; rintro e' w3 ⟨rfl, B3⟩) | (go_at_call 55; with_reducible refine (HY.out _).mono ?_; rintro e' w4 ⟨rfl, B4⟩) | (go_at_call 55; with_reducible refine (HZ.out _).mono ?_; rintro e' w5 ⟨rfl, B5⟩) | (go_at_call 20; with_reducible refine (HP.out _).mono ?_; rintro e' w6 ⟨rfl, B6⟩) | (go_at_call 19; refine (awake_any _).mono ?_; rintro e wz ⟨rfl, BZ⟩))
        all_goals (go_ret; first | exact ⟨rfl, B1.on BZ⟩ | exact ⟨rfl, (B1.on B2).on BZ⟩ | exact ⟨rfl, (((B1.on B3).on B4).on B5).on BZ⟩ | exact ⟨rfl, ((((B1.on B2).on B3).on B4).on B5).on BZ⟩ | exact ⟨rfl, ((((B1.on B3).on B4).on B5).on B6).on BZ⟩ | exact ⟨rfl, (((((B1.on B2).on B3).on B4).on B5).on B6).on BZ⟩)
theorem shN_is (x : Nat) (n : Int) : ∃ s e, shN x n = .tuple #[.string s, .int .i64 e] := by
  unfold shN endN
  split; exact ⟨_, _, rfl⟩; split; exact ⟨_, _, rfl⟩; split; exact ⟨_, _, rfl⟩; exact ⟨_, _, rfl⟩
theorem back_ok (a : ByteArray) (hok : Ok a) (s : ByteArray) (n e : Int) (hn2 : n < 9223372036854775808) (h : shN (bval a) n = .tuple #[.string s, .int .i64 e]) : BackOk a s n e := fun he hn w => by
  subst he
  have hx := enc_bval a hok
  have fin : ∀ (s : ByteArray), s.size ≤ maxLen → Ok s → shN (bval s) (-n) = .tuple #[.string a, .int .i64 0] → Calls Try.prog 28 #[.string s, .int .i64 (-n)] w fun e' w' => e' = .returned (.tuple #[.string a, .int .i64 0]) ∧ Below w.heap.size w w' := fun s h1 h2 h3 => by
    have := Shift_any s (-n) ⟨by omega, by omega⟩ w h1
    rw [if_pos h2, h3] at this
    exact this
  unfold shN at h
  split at h
  · rename_i h0
    simp only [Value.tuple.injEq, Array.mk.injEq, List.cons.injEq, Value.string.injEq, and_true] at h
    rw [h0, enc_zero] at hx
    subst hx
    rw [← h]
    exact fin _ (by decide) (by decide) (by unfold shN; rw [if_pos h0])
  · rename_i h0
    split at h
    · simp at h
    · rename_i hb
      rw [if_neg (by omega)] at h
      by_cases hs : Sm (bval a * 2 ^ n.toNat)
      · rw [hs.endN] at h
        simp only [Value.tuple.injEq, Array.mk.injEq, List.cons.injEq, Value.string.injEq, and_true] at h
        rw [← h]
        refine fin _ hs.size hs.ok ?_
        rw [bval_enc]
        have hp := Nat.two_pow_pos n.toNat
        unfold shN
        rw [if_neg (Nat.mul_ne_zero h0 (by omega)), if_neg (by omega)]
        by_cases hn0 : n = 0
        · subst hn0
          have e1 : bval a * 2 ^ (0 : Int).toNat = bval a := by simp
          have e2 : bval a * 2 ^ (0 : Int).toNat * 2 ^ (-(0 : Int)).toNat = bval a := by simp
          rw [if_neg (by omega), e2, (Sm.of_ok hok).endN, hx]
        · rw [if_pos (by omega)]
          have e1 : (- -n).toNat = n.toNat := by omega
          rw [e1, Nat.mul_div_cancel _ hp, hx]
      · rw [not_sm hs] at h
        simp at h
set_option maxRecDepth 100000 in
theorem law_NatShifts (a : ByteArray) (ha : a.size ≤ 140737488351232) (n : Int) (hn : -9223372036854775808 ≤ n ∧ n < 9223372036854775808) (m : Int) (hm : -9223372036854775808 ≤ m ∧ m < 9223372036854775808) (w : World) :
    Calls Try.prog 16 #[.string a, .int .i64 n, .int .i64 m] w fun e w' => e = .returned (.bool true) ∧ Below w.heap.size w w' := by
  have hma : a.size ≤ maxLen := by unfold maxLen; omega
  have HS0 := fun W => Shift_any a n hn W hma
  have HP0 := fun k W => Pow_any a k W hma
  by_cases hok : Ok a
  · simp only [hok, if_true] at HS0 HP0
    obtain ⟨s, e, hsh⟩ := shN_is (bval a) n
    have hback := back_ok a hok s n e hn.2 hsh
    rw [hsh] at HS0
    by_cases hr : n < 0 ∨ m < 0 ∨ 1048576 < n ∨ 1048576 < m
    · exact shifts_out a s n m e hn.2 hr HS0 hback w
    · have n0 : 0 ≤ n := by omega
      have m0 : 0 ≤ m := by omega
      obtain ⟨i, rfl⟩ : ∃ i : Nat, n = (i : Int) := ⟨n.toNat, by omega⟩
      obtain ⟨k, rfl⟩ : ∃ k : Nat, m = (k : Int) := ⟨m.toNat, by omega⟩
      have px : powN (bval a) (i : Int) = endN (bval a ^ i) := by unfold powN; rw [if_neg (by omega), Int.toNat_natCast]
      have py : powN (bval a) (k : Int) = endN (bval a ^ k) := by unfold powN; rw [if_neg (by omega), Int.toNat_natCast]
      have pz : powN (bval a) ((i : Int) + k) = endN (bval a ^ i * bval a ^ k) := by
        unfold powN
        rw [if_neg (by omega), show ((i : Int) + k).toNat = i + k by omega, Nat.pow_add]
      have HX := HP0 (i : Int)
      have HY := HP0 (k : Int)
      have HZ := HP0 ((i : Int) + k)
      rw [px] at HX
      rw [py] at HY
      rw [pz] at HZ
      by_cases hb : Sm (bval a ^ i) ∧ Sm (bval a ^ k)
      · obtain ⟨s1, s2⟩ := hb
        have hmul := (mul_ans s1 s2)
        rw [s1.endN] at HX
        rw [s2.endN] at HY
        exact shifts_in a s _ _ _ i k e _ _ _ n0 m0 (by omega) (by omega) HS0 hback HX HY HZ (.inl ⟨rfl, rfl, fun W => hmul.call W⟩) w
      · have hx1 : 1 ≤ bval a := by
          rcases Nat.eq_zero_or_pos (bval a) with h0 | h0
          · exfalso
            apply hb
            rw [h0]
            have : ∀ j : Nat, Sm (0 ^ j) := fun j => by
              rcases Nat.eq_zero_or_pos j with h | h
              · subst h; exact sm_one
              · rw [Nat.zero_pow h]; exact sm_zero
            exact ⟨this _, this _⟩
          · exact h0
        have hz : ¬ Sm (bval a ^ i * bval a ^ k) := fun h => hb (by
          rw [← Nat.pow_add] at h
          exact ⟨h.le (Nat.pow_le_pow_right hx1 (by omega)), h.le (Nat.pow_le_pow_right hx1 (by omega))⟩)
        rw [not_sm hz] at HZ
        have hne : endE (bval a ^ i) ≠ 0 ∨ endE (bval a ^ k) ≠ 0 := by
          have key : ∀ N, ¬ Sm N → endE N ≠ 0 := fun N h => by
            unfold Sm at h
            unfold endE
            rw [if_pos (by omega)]; decide
          by_cases h1 : Sm (bval a ^ i)
          · exact .inr (key _ fun h2 => hb ⟨h1, h2⟩)
          · exact .inl (key _ h1)
        exact shifts_in a s _ _ _ i k e _ _ _ n0 m0 (by omega) (by omega) HS0 hback HX HY HZ (.inr ⟨hne, by decide⟩) w
  · simp only [hok, if_false] at HS0 HP0
    have hback : BackOk a ⟨#[]⟩ n 2 := fun h => by omega
    by_cases hr : n < 0 ∨ m < 0 ∨ 1048576 < n ∨ 1048576 < m
    · exact shifts_out a ⟨#[]⟩ n m 2 hn.2 hr HS0 hback w
    · exact shifts_in a ⟨#[]⟩ ⟨#[]⟩ ⟨#[]⟩ ⟨#[]⟩ n m 2 2 2 2 (by omega) (by omega) (by omega) (by omega) HS0 hback (HP0 n) (HP0 m) (HP0 (n + m)) (.inr ⟨.inl (by decide), by decide⟩) w

set_option maxRecDepth 100000 in
theorem natShifts_lifted (os : Os) (started : os.Started) (H : Type) (enc : TypeId × Value → H) :
    ReturnsInHanded {} Try.checked os 16 .any (Rows.natShiftsSpec.pre6 enc Try.prog Try.f16 Rows.natShiftsRow.domain false) (Rows.natShiftsSpec.post enc Try.prog Try.f16 false true false false) := by
  refine returnsInHanded_of_change_sized (C := Try.checked) Try.own started (by kernel_rfl) Try.func16
    (ChangeSpec.witness6 (enc := enc) (C := Try.checked) false ⟨#[], #[.string ⟨#[]⟩, .int .i64 0, .int .i64 0], []⟩ 8 (by kernel_rfl) (by kernel_rfl) (by kernel_rfl) (by kernel_rfl)) ?_
  intro W base args ds gs before hval0 hW hcnd hsz0 _
  have hval : ∀ (j : Nat) t v, Try.f16.params[j]? = some t → args[j]? = some v → Value.okWide Try.prog W .any base t v := hval0
  have hsz : (DataW.weightsEach Try.prog (Try.f16.params.toList ++ Rows.natShiftsSpec.plain.varTypes Try.prog) (ds ++ gs)).all (· ≤ reachBytes) = true := hsz0
  clear hsz0
  have hW' := hW
  obtain ⟨p, q, hA0, hV, rfl, hfz, hnd⟩ := hW
  have hA : DataW.TrodAll enc Try.prog W 0 (fun _ => true) true Try.f16.params.toList args.toList ds p := hA0
  rw [Try.params16] at hA hval hsz
  obtain ⟨v0, vs0, d0, ds0, p0, q0, hargs, rfl, rfl, h0, r0⟩ := trodAll_cons hA
  obtain ⟨v1, vs1, d1, ds1, p1, q1, rfl, rfl, rfl, h1, r1⟩ := trodAll_cons r0
  obtain ⟨v2, vs2, d2, ds2, p2, q2, rfl, rfl, rfl, h2, r2⟩ := trodAll_cons r1
  obtain ⟨rfl, rfl, rfl⟩ := trodAll_nil r2
  obtain rfl : args = #[v0, v1, v2] := by cases args; simp_all
  obtain ⟨rfl, rfl⟩ := trodVars_none hV
  obtain ⟨a0, rfl, rfl, rfl, wa0⟩ := open_string Try.underlying22 (hval 0 22 v0 rfl rfl) h0
  have sz0 : a0.size ≤ 140737488351232 := by
    have h := sized_string hsz (j := 0) (t := 22) rfl rfl
    rw [Array.length_toList] at h; exact h
  obtain ⟨a1, rfl, rfl, rfl, wa1⟩ := open_int Try.underlying3 (hval 1 3 v1 rfl rfl) h1
  obtain ⟨a2, rfl, rfl, rfl, wa2⟩ := open_int Try.underlying3 (hval 2 3 v2 rfl rfl) h2
  clear hA0 hval0
  simp only [List.append_nil] at hW'
  refine (law_NatShifts a0 sz0 a1 (i64_bd wa1) a2 (i64_bd wa2) W).mono fun e W' ⟨he, hg⟩ => ?_
  subst he
  exact ⟨_, rfl, post_of_below (pa := []) (pv := []) hW' (fun _ _ _ => (trodAll_cons_mk (shut_bool Try.underlying4 _) trodAll_mk0)) (fun _ _ => (trodAll_cons_mk (shut_string Try.underlying22 wa0) (trodAll_cons_mk (shut_int Try.underlying3 wa1) (trodAll_cons_mk (shut_int Try.underlying3 wa2) trodAll_mk0)))) (fun _ _ => rfl) rfl
    hg (ok_one (by kernel_rfl) rfl (okWide_bool_mk Try.underlying4 _))⟩

theorem natShifts_holds : Rows.NatShiftsSaid :=
  OpenClaim.holds_of_wide 16 Try.f16 rfl rfl rfl rfl rfl rfl rfl ⟨rfl, rfl, rfl, rfl, rfl⟩ rfl rfl rfl rfl rfl (by kernel_rfl) Try.func16 (by kernel_rfl)
    (of_decide_eq_true (by kernel_rfl)) (by unfold Func.isWrapper; rw [if_neg (of_decide_eq_false (by kernel_rfl))]; exact ⟨rfl, rfl⟩)
    (fun os started H enc _ => natShifts_lifted os started H enc)
#print axioms natShifts_holds

end Go.Proofs.Ytfhkpkebiinglaa
