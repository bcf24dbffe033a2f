/-
  The laws of division, roots and common divisors, over what div is known to do.
-/
import Derived.Test.YtfhkpkebiinglaaGrx
import Derived.Test.YtfhkpkebiinglaaLa
import Derived.Test.YtfhkpkebiinglaaShf
import Derived.Test.YtfhkpkebiinglaaCmpx
namespace Go.Proofs.Ytfhkpkebiinglaa
open Go.RowKit

theorem root_ex (x : Nat) : ∃ r, IsRt x r := by
  induction x with
  | zero => exact ⟨0, root_zero⟩
  | succ x ih =>
    obtain ⟨r, h1, h2⟩ := ih
    by_cases h : x + 1 < (r + 1) * (r + 1)
    · exact ⟨r, by omega, h⟩
    · refine ⟨r + 1, by omega, ?_⟩
      have : (r + 1 + 1) * (r + 1 + 1) = (r + 1) * (r + 1) + 2 * (r + 1) + 1 := by
        simp only [Nat.add_mul, Nat.mul_add]; omega
      omega
theorem div_e (HDV : ∀ y, y ≠ 0 → DivAtY y) {A B : Nat} (ha : Sm A) (hb : Sm B) (h0 : B ≠ 0) : Ans 24 #[.string (enc A), .string (enc B)] (.tuple #[.string (enc (A / B)), .string (enc (A % B)), .int .i64 0]) := fun w => by
  have := Div_of (enc A) (enc B) w ha.size hb.size (fun _ _ h => HDV _ h)
  rw [if_pos ⟨ha.ok, hb.ok⟩, bval_enc, bval_enc] at this
  unfold divN at this
  rw [if_neg h0] at this
  exact this
theorem gcd_e (HDV : ∀ y, y ≠ 0 → DivAtY y) {A B : Nat} (ha : Sm A) (hb : Sm B) : Ans 26 #[.string (enc A), .string (enc B)] (.tuple #[.string (enc (Nat.gcd A B)), .int .i64 0]) := fun w => by
  have := Gcd_of HDV (enc A) (enc B) w ha.size hb.size
  rw [if_pos ⟨ha.ok, hb.ok⟩, bval_enc, bval_enc] at this
  exact this
theorem root_e (HDV : ∀ y, y ≠ 0 → DivAtY y) {A r : Nat} (ha : Sm A) (hr : IsRt A r) : Ans 38 #[.string (enc A)] (.tuple #[.string (enc r), .string (enc (A - r * r)), .int .i64 0]) := fun w => by
  refine (Root_of HDV (enc A) w ha.size).mono ?_
  rintro e w' ⟨r2, h2, rfl, B⟩
  have h3 := h2 ha.ok
  rw [bval_enc] at h3
  have := h3.eq hr
  subst this
  refine ⟨?_, B⟩
  rw [if_pos ha.ok, bval_enc]

set_option maxRecDepth 100000 in
theorem natdiv_of (HDV : ∀ y, y ≠ 0 → DivAtY y) (a : ByteArray) (ha : a.size ≤ 140737488351232) (b : ByteArray) (hb : b.size ≤ 140737488351232) (w : World) :
    Calls Try.prog 4 #[.string a, .string b] w fun e w' => e = .returned (.bool true) ∧ Below w.heap.size w w' := by
  have hma : a.size ≤ maxLen := by unfold maxLen; omega
  have hmb : b.size ≤ maxLen := by unfold maxLen; omega
  have HM := Lib.hid fun W => Div_of a b W hma hmb (fun _ _ h => HDV _ h)
  have HRF := Lib.hid fun W t ht => refused_two a b W hma hmb t ht
  clear HDV
  by_cases hok : Ok a ∧ Ok b
  · have HRF2 := Lib.hid fun W => HRF.out W false (by simp [hok])
    simp only [hok, and_self, if_true] at HM
    have HRD := Lib.hid fun hs W => rDiv_any a b hok.1 hok.2 hs W
    have h0 := ok_zero b hok.2
    have hz : b.toList.isEmpty = decide (b.size = 0) := isEmpty_size b
    have ha1 := hok.1.1
    have hb1 := hok.2.1
    by_cases hb0 : b.size = 0
    · have hR : divN (bval a) (bval b) = .tuple #[.string ⟨#[]⟩, .string ⟨#[]⟩, .int .i64 21] := if_pos (h0.2 hb0)
      rw [hR] at HM HRD
      have HRD2 := Lib.hid fun W => HRD.out (.inl hb0) W
      have hz2 : b.toList.isEmpty = true := by rw [hz]; simp [hb0]
      have hz3 : b.toList = [] := (toList_nil b).2 hb0
      have hcase : (a.size : Int) + b.size ≤ 1200 ∨ (1200 : Int) < (a.size : Int) + b.size := by omega
      clear hz h0 hok ha hb HRF HRD hb0 hma hmb hR
      rcases hcase with hc | hc
      all_goals
        go_enter Try.func4, Try.ntmps4
        go_wp2_with (first | (go_at_call 24; with_reducible refine (HM.out _).mono ?_; rintro e w1 ⟨rfl, B1⟩) | (go_at_call 21; with_reducible refine (HRF2.out _).mono ?_; rintro e w2 ⟨rfl, B2⟩) | (go_at_call 25; with_reducible refine (HRD2.out _).mono ?_; rintro e w3 ⟨rfl, B3⟩) | (go_at_call 19; refine (awake_any _).mono ?_; rintro e wz ⟨rfl, BZ⟩))
        go_ret
        exact ⟨rfl, by repeat (first | assumption | refine Below.on ?_ (by assumption))⟩
    · have hR : divN (bval a) (bval b) = .tuple #[.string (enc (bval a / bval b)), .string (enc (bval a % bval b)), .int .i64 0] := if_neg fun e => hb0 (h0.1 e)
      rw [hR] at HM HRD
      have hz2 : b.toList.isEmpty = false := by rw [hz]; simp [hb0]
      have hz3 : ¬ b.toList = [] := fun h => hb0 ((toList_nil b).1 h)
      by_cases hc : (a.size : Int) + b.size ≤ 1200
      · have HRD2 := Lib.hid fun W => HRD.out (.inr (by omega)) W
        clear hz h0 hok ha hb HRF HRD hb0 hma hmb hR
        generalize bval a / bval b = q at *
        generalize bval a % bval b = r at *
        go_enter Try.func4, Try.ntmps4
        go_wp2_with (first | (go_at_call 24; with_reducible refine (HM.out _).mono ?_; rintro e w1 ⟨rfl, B1⟩) | (go_at_call 21; with_reducible refine (HRF2.out _).mono ?_; rintro e w2 ⟨rfl, B2⟩) | (go_at_call 25; with_reducible refine (HRD2.out _).mono ?_; rintro e w3 ⟨rfl, B3⟩) | (go_at_call 19; refine (awake_any _).mono ?_; rintro e wz ⟨rfl, BZ⟩))
        go_ret
        exact ⟨rfl, by repeat (first | assumption | refine Below.on ?_ (by assumption))⟩
      · have hc2 : (1200 : Int) < (a.size : Int) + b.size := by omega
        clear hz h0 hok ha hb HRF HRD hb0 hma hmb hR
        generalize bval a / bval b = q at *
        generalize bval a % bval b = r at *
        go_enter Try.func4, Try.ntmps4
        go_wp2_with (first | (go_at_call 24; with_reducible refine (HM.out _).mono ?_; rintro e w1 ⟨rfl, B1⟩) | (go_at_call 21; with_reducible refine (HRF2.out _).mono ?_; rintro e w2 ⟨rfl, B2⟩) | (go_at_call 19; refine (awake_any _).mono ?_; rintro e wz ⟨rfl, BZ⟩))
        go_ret
        exact ⟨rfl, by repeat (first | assumption | refine Below.on ?_ (by assumption))⟩
  · have HRF2 := Lib.hid fun W => HRF.out W true (by simp only [hok, decide_false]; rfl)
    simp only [hok, if_false] at HM
    clear hok ha hb HRF hma hmb
    go_enter Try.func4, Try.ntmps4
    go_wp2_with (first | (go_at_call 24; with_reducible refine (HM.out _).mono ?_; rintro e w1 ⟨rfl, B1⟩) | (go_at_call 21; with_reducible refine (HRF2.out _).mono ?_; rintro e w2 ⟨rfl, B2⟩) | (go_at_call 19; refine (awake_any _).mono ?_; rintro e wz ⟨rfl, BZ⟩))
    go_ret
    exact ⟨rfl, by repeat (first | assumption | refine Below.on ?_ (by assumption))⟩

theorem cmp_e {A B : Nat} (ha : Sm A) (hb : Sm B) : Ans 30 #[.string (enc A), .string (enc B)] (.tuple #[.int .i64 (cmpN A B), .int .i64 0]) := fun w => by
  have := Cmp_any (enc A) (enc B) w ha.size hb.size
  rw [if_pos ⟨ha.ok, hb.ok⟩, bval_enc, bval_enc] at this
  exact this
theorem twice_e {A : Nat} (ha : Sm A) (h : Sm (A * 2)) : Ans 28 #[.string (enc A), .int .i64 1] (.tuple #[.string (enc (A * 2)), .int .i64 0]) := fun w => by
  have h1 := Shift_any (enc A) 1 ⟨by omega, by omega⟩ w ha.size
  rw [if_pos ha.ok, bval_enc] at h1
  have e : shN A 1 = .tuple #[.string (enc (A * 2)), .int .i64 0] := by
    unfold shN
    by_cases h0 : A = 0
    · subst h0; rw [if_pos rfl]; rfl
    · rw [if_neg h0, if_neg (by omega), if_neg (by omega)]
      have : (1 : Int).toNat = 1 := rfl
      rw [this, Nat.pow_one, h.endN]
  rwa [e] at h1
set_option maxRecDepth 100000 in
theorem natgcd_of (HDV : ∀ y, y ≠ 0 → DivAtY y) (a : ByteArray) (ha : a.size ≤ 140737488351232) (b : ByteArray) (hb : b.size ≤ 140737488351232) (w : World) :
    Calls Try.prog 5 #[.string a, .string b] w fun e w' => e = .returned (.bool true) ∧ Below w.heap.size w w' := by
  have hma : a.size ≤ maxLen := by unfold maxLen; omega
  have hmb : b.size ≤ maxLen := by unfold maxLen; omega
  have HM := Lib.hid fun W => Gcd_of HDV a b W hma hmb
  have HRF := Lib.hid fun W t ht => refused_two a b W hma hmb t ht
  clear HDV
  by_cases hok : Ok a ∧ Ok b
  · have HRF2 := Lib.hid fun W => HRF.out W false (by simp [hok])
    simp only [hok, and_self, if_true] at HM
    have HRD := Lib.hid fun h1 h2 W => rGcd_any a b hok.1 hok.2 h1 h2 W
    have ha1 := hok.1.1
    have hb1 := hok.2.1
    by_cases hc : (a.size : Int) + b.size ≤ 80
    · have HRD2 := Lib.hid fun W => HRD.out (by omega) (by omega) W
      clear hok ha hb HRF HRD hma hmb
      generalize Nat.gcd (bval a) (bval b) = q at *
      go_enter Try.func5, Try.ntmps5
      go_wp2_with (first | (go_at_call 26; with_reducible refine (HM.out _).mono ?_; rintro e w1 ⟨rfl, B1⟩) | (go_at_call 21; with_reducible refine (HRF2.out _).mono ?_; rintro e w2 ⟨rfl, B2⟩) | (go_at_call 27; with_reducible refine (HRD2.out _).mono ?_; rintro e w3 ⟨rfl, B3⟩) | (go_at_call 19; refine (awake_any _).mono ?_; rintro e wz ⟨rfl, BZ⟩))
      go_ret
      exact ⟨rfl, by repeat (first | assumption | refine Below.on ?_ (by assumption))⟩
    · have hc2 : (80 : Int) < (a.size : Int) + b.size := by omega
      clear hok ha hb HRF HRD hma hmb
      generalize Nat.gcd (bval a) (bval b) = q at *
      go_enter Try.func5, Try.ntmps5
      go_wp2_with (first | (go_at_call 26; with_reducible refine (HM.out _).mono ?_; rintro e w1 ⟨rfl, B1⟩) | (go_at_call 21; with_reducible refine (HRF2.out _).mono ?_; rintro e w2 ⟨rfl, B2⟩) | (go_at_call 19; refine (awake_any _).mono ?_; rintro e wz ⟨rfl, BZ⟩))
      go_ret
      exact ⟨rfl, by repeat (first | assumption | refine Below.on ?_ (by assumption))⟩
  · have HRF2 := Lib.hid fun W => HRF.out W true (by simp only [hok, decide_false]; rfl)
    simp only [hok, if_false] at HM
    clear hok ha hb HRF hma hmb
    go_enter Try.func5, Try.ntmps5
    go_wp2_with (first | (go_at_call 26; with_reducible refine (HM.out _).mono ?_; rintro e w1 ⟨rfl, B1⟩) | (go_at_call 21; with_reducible refine (HRF2.out _).mono ?_; rintro e w2 ⟨rfl, B2⟩) | (go_at_call 19; refine (awake_any _).mono ?_; rintro e wz ⟨rfl, BZ⟩))
    go_ret
    exact ⟨rfl, by repeat (first | assumption | refine Below.on ?_ (by assumption))⟩
set_option maxRecDepth 100000 in
theorem natroot_of (HDV : ∀ y, y ≠ 0 → DivAtY y) (a : ByteArray) (ha : a.size ≤ 140737488351232) (w : World) :
    Calls Try.prog 11 #[.string a] w fun e w' => e = .returned (.bool true) ∧ Below w.heap.size w w' := by
  have hma : a.size ≤ maxLen := by unfold maxLen; omega
  have HRF := Lib.hid fun W t ht => refused_one a W hma t ht
  obtain ⟨r0, hr0⟩ := root_ex (bval a)
  by_cases hok : Ok a
  · have HRF2 := Lib.hid fun W => HRF.out W false (by simp [hok])
    have hm := root_e HDV (Sm.of_ok hok) hr0
    rw [enc_bval a hok] at hm
    have HM := Lib.hid hm
    have HRD := Lib.hid fun h1 W => rRoot_any a hok h1 W
    have HEQ := Lib.hid fun r (h : IsRt (bval a) r) => h.eq hr0
    have ha1 := hok.1
    clear hok ha HRF hma hm hr0 HDV
    generalize bval a = x at *
    by_cases hc : (a.size : Int) ≤ 200
    · have HRD2 := Lib.hid fun W => HRD.out (by omega) W
      go_enter Try.func11, Try.ntmps11
      go_wp2_with (first | (go_at_call 38; with_reducible refine (HM.out.call _).mono ?_; rintro e w1 ⟨rfl, B1⟩) | (go_at_call 21; with_reducible refine (HRF2.out _).mono ?_; rintro e w2 ⟨rfl, B2⟩) | (go_at_call 39; with_reducible refine (HRD2.out _).mono ?_; rintro e w3 ⟨r, hr, rfl, B3⟩; have hrr := HEQ.out r hr; subst hrr; clear hr) | (go_at_call 19; refine (awake_any _).mono ?_; rintro e wz ⟨rfl, BZ⟩))
      go_ret
      exact ⟨rfl, by repeat (first | assumption | refine Below.on ?_ (by assumption))⟩
    · have hc2 : (200 : Int) < (a.size : Int) := by omega
      go_enter Try.func11, Try.ntmps11
      go_wp2_with (first | (go_at_call 38; with_reducible refine (HM.out.call _).mono ?_; rintro e w1 ⟨rfl, B1⟩) | (go_at_call 21; with_reducible refine (HRF2.out _).mono ?_; rintro e w2 ⟨rfl, B2⟩) | (go_at_call 19; refine (awake_any _).mono ?_; rintro e wz ⟨rfl, BZ⟩))
      go_ret
      exact ⟨rfl, by repeat (first | assumption | refine Below.on ?_ (by assumption))⟩
  · have HRF2 := Lib.hid fun W => HRF.out W true (by simp only [hok, decide_false]; rfl)
    have HM := Lib.hid fun W => Root_of HDV a W hma
    simp only [hok, if_false, false_implies, true_and] at HM
    clear hok ha HRF hma HDV hr0
    go_enter Try.func11, Try.ntmps11
    go_wp2_with (first | (go_at_call 38; with_reducible refine (HM.out _).mono ?_; rintro e w1 ⟨r, rfl, B1⟩) | (go_at_call 21; with_reducible refine (HRF2.out _).mono ?_; rintro e w2 ⟨rfl, B2⟩) | (go_at_call 19; refine (awake_any _).mono ?_; rintro e wz ⟨rfl, BZ⟩))
    go_ret
    exact ⟨rfl, by repeat (first | assumption | refine Below.on ?_ (by assumption))⟩

set_option maxRecDepth 100000 in
set_option maxHeartbeats 2000000 in
theorem natdivision_of (HDV : ∀ y, y ≠ 0 → DivAtY y) (a : ByteArray) (ha : a.size ≤ 140737488351232) (b : ByteArray) (hb : b.size ≤ 140737488351232) (w : World) :
    Calls Try.prog 17 #[.string a, .string b] w fun e w' => e = .returned (.bool true) ∧ Below w.heap.size w w' := by
  have hma : a.size ≤ maxLen := by unfold maxLen; omega
  have hmb : b.size ≤ maxLen := by unfold maxLen; omega
  have HRF := Lib.hid fun W t ht => refused_two a b W hma hmb t ht
  by_cases hok : Ok a ∧ Ok b
  · have HRF2 := Lib.hid fun W => HRF.out W false (by simp [hok])
    have ha1 := hok.1.1
    have hb1 := hok.2.1
    have h0 := ok_zero b hok.2
    have hz : b.toList.isEmpty = decide (b.size = 0) := isEmpty_size b
    by_cases hb0 : b.size = 0
    · have HM := Lib.hid fun W => Div_of a b W hma hmb (fun _ _ h => HDV _ h)
      simp only [hok, and_self, if_true] at HM
      have hR : divN (bval a) (bval b) = .tuple #[.string ⟨#[]⟩, .string ⟨#[]⟩, .int .i64 21] := if_pos (h0.2 hb0)
      rw [hR] at HM
      have hz2 : b.toList.isEmpty = true := by rw [hz]; simp [hb0]
      have hz3 : b.toList = [] := (toList_nil b).2 hb0
      clear hz h0 hok ha hb HRF hb0 hma hmb hR HDV
      go_enter Try.func17, Try.ntmps17
      go_wp2_with (first | (go_at_call 24; with_reducible refine (HM.out _).mono ?_; rintro e w1 ⟨rfl, B1⟩) | (go_at_call 21; with_reducible refine (HRF2.out _).mono ?_; rintro e w2 ⟨rfl, B2⟩) | (go_at_call 19; refine (awake_any _).mono ?_; rintro e wz ⟨rfl, BZ⟩))
      go_ret
      exact ⟨rfl, by repeat (first | assumption | refine Below.on ?_ (by assumption))⟩
    · have hz2 : b.toList.isEmpty = false := by rw [hz]; simp [hb0]
      have hz3 : ¬ b.toList = [] := fun h => hb0 ((toList_nil b).1 h)
      have hy0 : bval b ≠ 0 := fun e => hb0 (h0.1 e)
      have ea := enc_bval a hok.1
      have eb := enc_bval b hok.2
      have sa := Sm.of_ok hok.1
      have sb := Sm.of_ok hok.2
      have hal := bval_lt a
      obtain ⟨r0, hr0⟩ := root_ex (bval a)
      have hdm := Nat.div_add_mod (bval a) (bval b)
      have hml := Nat.mod_lt (bval a) (Nat.pos_of_ne_zero hy0)
      have sq : Sm (bval a / bval b) := sa.le (Nat.div_le_self _ _)
      have sr : Sm (bval a % bval b) := sa.le (Nat.mod_le _ _)
      have sp : Sm (bval a / bval b * bval b) := sa.le (Nat.div_mul_le_self _ _)
      have hsum : bval a / bval b * bval b + bval a % bval b = bval a := by rw [Nat.mul_comm]; exact hdm
      have c1 := div_e HDV sa sb hy0
      have c2 := mul_e sq sb sp
      have c3 := add_e sp sr (by rw [hsum]; exact sa)
      have c4 := cmp_e sr sb
      have c5 := root_e HDV sa hr0
      have hrle := hr0.le
      have sr0 : Sm r0 := sa.le hrle
      have srr : Sm (r0 * r0) := sa.le hr0.1
      have srs : Sm (bval a - r0 * r0) := sa.le (Nat.sub_le _ _)
      have hsum2 : r0 * r0 + (bval a - r0 * r0) = bval a := by have := hr0.1; omega
      have c6 := mul_e sr0 sr0 srr
      have c7 := add_e srr srs (by rw [hsum2]; exact sa)
      rw [hsum] at c3
      rw [hsum2] at c7
      rw [cmpN_lt hml] at c4
      rw [ea, eb] at c1
      rw [eb] at c2 c4
      rw [ea] at c3 c5 c7
      have hrest : bval a - r0 * r0 ≤ r0 * 2 := by
        have := hr0.2
        simp only [Nat.add_mul, Nat.mul_add] at this
        omega
      have hc2 : cmpN (bval a - r0 * r0) (r0 * 2) ≤ 0 := cmp_le0 hrest
      have HC1 := Lib.hid c1
      have HC2 := Lib.hid c2
      have HC3 := Lib.hid c3
      have HC4 := Lib.hid c4
      have HC5 := Lib.hid c5
      have HC6 := Lib.hid c6
      have HC7 := Lib.hid c7
      by_cases hl : (4000 : Int) < a.size
      · clear c1 c2 c3 c4 c5 c6 c7 hz h0 hok ha hb HRF hb0 hma hmb HDV ea eb sa sb hal hr0 hdm hml sq sr sp hsum hrle sr0 srr srs hsum2 hrest hc2 HC5 HC6 HC7
        generalize bval a / bval b * bval b = p at *
        generalize bval a / bval b = q at *
        generalize bval a % bval b = r at *
        go_enter Try.func17, Try.ntmps17
        go_wp2_with (first | (go_at_call 24; with_reducible refine (HC1.out.call _).mono ?_; rintro e w1 ⟨rfl, B1⟩) | (go_at_call 21; with_reducible refine (HRF2.out _).mono ?_; rintro e w2 ⟨rfl, B2⟩) | (go_at_call 20; with_reducible refine (HC2.out.call _).mono ?_; rintro e w3 ⟨rfl, B3⟩) | (go_at_call 32; with_reducible refine (HC3.out.call _).mono ?_; rintro e w4 ⟨rfl, B4⟩) | (go_at_call 30; with_reducible refine (HC4.out.call _).mono ?_; rintro e w5 ⟨rfl, B5⟩) | (go_at_call 19; refine (awake_any _).mono ?_; rintro e wz ⟨rfl, BZ⟩))
        go_ret
        exact ⟨rfl, by repeat (first | assumption | refine Below.on ?_ (by assumption))⟩
      · have st : Sm (r0 * 2) := by
          obtain ⟨K, hK⟩ : ∃ K, K = a.size := ⟨_, rfl⟩
          refine Sm.of_lt (k := K + 1) ?_ (by omega)
          rw [Nat.pow_succ, hK]; omega
        have HC8 := Lib.hid (twice_e sr0 st)
        have HC9 := Lib.hid (cmp_e srs st)
        clear c1 c2 c3 c4 c5 c6 c7 hz h0 hok ha hb HRF hb0 hma hmb HDV ea eb sa sb hal hr0 hdm hml sq sr sp hsum hrle sr0 srr srs hsum2 hrest st
        generalize bval a / bval b * bval b = p at *
        generalize bval a / bval b = q at *
        generalize bval a % bval b = r at *
        generalize cmpN (bval a - r0 * r0) (r0 * 2) = cc at *
        generalize r0 * 2 = tw at *
        generalize bval a - r0 * r0 = rs at *
        generalize r0 * r0 = rr at *
        generalize bval a = x at *
        go_enter Try.func17, Try.ntmps17
        go_wp2_with (first | (go_at_call 24; with_reducible refine (HC1.out.call _).mono ?_; rintro e w1 ⟨rfl, B1⟩) | (go_at_call 21; with_reducible refine (HRF2.out _).mono ?_; rintro e w2 ⟨rfl, B2⟩) | (go_at_call 20; with_reducible refine (HC2.out.call _).mono ?_; rintro e w3 ⟨rfl, B3⟩) | (go_at_call 32; with_reducible refine (HC3.out.call _).mono ?_; rintro e w4 ⟨rfl, B4⟩) | (go_at_call 30; with_reducible refine (HC4.out.call _).mono ?_; rintro e w5 ⟨rfl, B5⟩) | (go_at_call 38; with_reducible refine (HC5.out.call _).mono ?_; rintro e w6 ⟨rfl, B6⟩) | (go_at_call 20; with_reducible refine (HC6.out.call _).mono ?_; rintro e w7 ⟨rfl, B7⟩) | (go_at_call 32; with_reducible refine (HC7.out.call _).mono ?_; rintro e w8 ⟨rfl, B8⟩) | (go_at_call 28; with_reducible refine (HC8.out.call _).mono ?_; rintro e w9 ⟨rfl, B9⟩) | (go_at_call 30; with_reducible refine (HC9.out.call _).mono ?_; rintro e wa ⟨rfl, BA⟩) | (go_at_call 19; refine (awake_any _).mono ?_; rintro e wz ⟨rfl, BZ⟩))
        go_ret
        exact ⟨rfl, by repeat (first | assumption | refine Below.on ?_ (by assumption))⟩
  · have HRF2 := Lib.hid fun W => HRF.out W true (by simp only [hok, decide_false]; rfl)
    clear hok ha hb HRF hma hmb HDV
    go_enter Try.func17, Try.ntmps17
    go_wp2_with (first | (go_at_call 21; with_reducible refine (HRF2.out _).mono ?_; rintro e w2 ⟨rfl, B2⟩) | (go_at_call 19; refine (awake_any _).mono ?_; rintro e wz ⟨rfl, BZ⟩))
    go_ret
    exact ⟨rfl, by repeat (first | assumption | refine Below.on ?_ (by assumption))⟩

set_option maxRecDepth 100000 in
set_option maxHeartbeats 2000000 in
theorem natdivisors_of (HDV : ∀ y, y ≠ 0 → DivAtY y) (a : ByteArray) (ha : a.size ≤ 140737488351232) (b : ByteArray) (hb : b.size ≤ 140737488351232) (w : World) :
    Calls Try.prog 6 #[.string a, .string b] w fun e w' => e = .returned (.bool true) ∧ Below w.heap.size w w' := by
  have hma : a.size ≤ maxLen := by unfold maxLen; omega
  have hmb : b.size ≤ maxLen := by unfold maxLen; omega
  have HRF := Lib.hid fun W t ht => refused_two a b W hma hmb t ht
  by_cases hok : Ok a ∧ Ok b
  · have HRF2 := Lib.hid fun W => HRF.out W false (by simp [hok])
    by_cases hl : (800 : Int) < (a.size : Int) + b.size
    · clear hok HRF hma hmb HDV
      go_enter Try.func6, Try.ntmps6
      go_wp2_with (first | (go_at_call 21; with_reducible refine (HRF2.out _).mono ?_; rintro e w2 ⟨rfl, B2⟩) | (go_at_call 19; refine (awake_any _).mono ?_; rintro e wz ⟨rfl, BZ⟩))
      go_ret
      exact ⟨rfl, by repeat (first | assumption | refine Below.on ?_ (by assumption))⟩
    · have hl2 : (a.size : Int) + b.size ≤ 800 := by omega
      have ea := enc_bval a hok.1
      have eb := enc_bval b hok.2
      have sa := Sm.of_ok hok.1
      have sb := Sm.of_ok hok.2
      have sg := gcd_fit hok.1 hok.2
      by_cases hB : bval b = 0
      · have ebz : b = ⟨#[]⟩ := by rw [← eb, hB]; rfl
        by_cases hA : bval a = 0
        · have eaz : a = ⟨#[]⟩ := by rw [← ea, hA]; rfl
          have c1 := gcd_e HDV sa sb
          rw [ea, eb, hA, hB, Nat.gcd_zero_left, enc_zero, eaz, ebz] at c1
          have HC1 := Lib.hid c1
          subst eaz
          subst ebz
          clear c1 hok HRF hma hmb HDV ea eb sa sb sg hA hB
          go_enter Try.func6, Try.ntmps6
          go_wp2_with (first | (go_at_call 21; with_reducible refine (HRF2.out _).mono ?_; rintro e w2 ⟨rfl, B2⟩) | (go_at_call 26; with_reducible refine (HC1.out.call _).mono ?_; rintro e w3 ⟨rfl, B3⟩) | (go_at_call 19; refine (awake_any _).mono ?_; rintro e wz ⟨rfl, BZ⟩))
          go_ret
          exact ⟨rfl, by repeat (first | assumption | refine Below.on ?_ (by assumption))⟩
        · obtain ⟨hz2, hz3⟩ := encNe (bval a) hA
          rw [ea] at hz2 hz3
          have s0 : Sm 0 := sa.le (Nat.zero_le _)
          have s1 : Sm 1 := sa.le (Nat.pos_of_ne_zero hA)
          have c1 := gcd_e HDV sa s0
          have c2 := gcd_e HDV s0 sa
          have c3 := div_e HDV sa sa hA
          have c4 := div_e HDV s0 sa hA
          have c5 := gcd_e HDV s1 s0
          rw [Nat.gcd_zero_right, enc_zero, ea] at c1
          rw [Nat.gcd_zero_left, enc_zero, ea] at c2
          rw [Nat.div_self (Nat.pos_of_ne_zero hA), Nat.mod_self, enc_zero, enc_1, ea] at c3
          rw [Nat.zero_div, Nat.zero_mod, enc_zero, ea] at c4
          rw [Nat.gcd_zero_right, enc_zero, enc_1] at c5
          have HC1 := Lib.hid c1
          have HC2 := Lib.hid c2
          have HC3 := Lib.hid c3
          have HC4 := Lib.hid c4
          have HC5 := Lib.hid c5
          subst ebz
          clear c1 c2 c3 c4 c5 s0 s1 hok HRF hma hmb HDV ea eb sa sb sg hA hB
          go_enter Try.func6, Try.ntmps6
          go_wp2_with (first | (go_at_call 21; with_reducible refine (HRF2.out _).mono ?_; rintro e w2 ⟨rfl, B2⟩) | (go_at_call 26; with_reducible refine (HC1.out.call _).mono ?_; rintro e w3 ⟨rfl, B3⟩) | (go_at_call 26; with_reducible refine (HC2.out.call _).mono ?_; rintro e w4 ⟨rfl, B4⟩) | (go_at_call 24; with_reducible refine (HC3.out.call _).mono ?_; rintro e w5 ⟨rfl, B5⟩) | (go_at_call 24; with_reducible refine (HC4.out.call _).mono ?_; rintro e w6 ⟨rfl, B6⟩) | (go_at_call 26; with_reducible refine (HC5.out.call _).mono ?_; rintro e w7 ⟨rfl, B7⟩) | (go_at_call 19; refine (awake_any _).mono ?_; rintro e wz ⟨rfl, BZ⟩))
          go_ret
          exact ⟨rfl, by repeat (first | assumption | refine Below.on ?_ (by assumption))⟩
      · have hBp := Nat.pos_of_ne_zero hB
        have hg0 : Nat.gcd (bval a) (bval b) ≠ 0 := fun e => hB (Nat.eq_zero_of_gcd_eq_zero_right e)
        obtain ⟨hz2, hz3⟩ := encNe (bval b) hB
        rw [eb] at hz2 hz3
        obtain ⟨hg2, hg3⟩ := encNe _ hg0
        have hda := Nat.mod_eq_zero_of_dvd (Nat.gcd_dvd_left (bval a) (bval b))
        have hdb := Nat.mod_eq_zero_of_dvd (Nat.gcd_dvd_right (bval a) (bval b))
        have sx : Sm (bval a / Nat.gcd (bval a) (bval b)) := sa.le (Nat.div_le_self _ _)
        have sy : Sm (bval b / Nat.gcd (bval a) (bval b)) := sb.le (Nat.div_le_self _ _)
        have sr : Sm (bval a % bval b) := sa.le (Nat.mod_le _ _)
        have c1 := gcd_e HDV sa sb
        have c2 := gcd_e HDV sb sa
        have c3 := div_e HDV sa sg hg0
        have c4 := div_e HDV sb sg hg0
        have c5 := gcd_e HDV sx sy
        have c6 := div_e HDV sa sb hB
        have c7 := gcd_e HDV sb sr
        rw [Nat.gcd_comm (bval b) (bval a)] at c2
        rw [hda, enc_zero] at c3
        rw [hdb, enc_zero] at c4
        rw [Nat.gcd_div (Nat.gcd_dvd_left _ _) (Nat.gcd_dvd_right _ _), Nat.div_self (Nat.pos_of_ne_zero hg0), enc_1] at c5
        rw [← gcd_step] at c7
        rw [ea, eb] at c1 c2 c6
        rw [ea] at c3
        rw [eb] at c4 c7
        have HC1 := Lib.hid c1
        have HC2 := Lib.hid c2
        have HC3 := Lib.hid c3
        have HC4 := Lib.hid c4
        have HC5 := Lib.hid c5
        have HC6 := Lib.hid c6
        have HC7 := Lib.hid c7
        have hcase : a.size = 0 ∨ a.size ≠ 0 := by omega
        have hza : a.toList.isEmpty = decide (a.size = 0) := isEmpty_size a
        have hzn := toList_nil a
        clear c1 c2 c3 c4 c5 c6 c7 hok HRF hma hmb HDV ea eb sa sb sg hB hBp hg0 hda hdb sx sy sr
        generalize enc (bval a / Nat.gcd (bval a) (bval b)) = xs at *
        generalize enc (bval b / Nat.gcd (bval a) (bval b)) = ys at *
        generalize enc (Nat.gcd (bval a) (bval b)) = gs at *
        generalize enc (bval a % bval b) = rs at *
        generalize enc (bval a / bval b) = qs at *
        rcases hcase with h | h
        · have ha2 : a.toList.isEmpty = true := by rw [hza]; simp [h]
          have ha3 : a.toList = [] := hzn.2 h
          clear hza hzn h
          go_enter Try.func6, Try.ntmps6
          go_wp2_with (first | (go_at_call 21; with_reducible refine (HRF2.out _).mono ?_; rintro e w2 ⟨rfl, B2⟩) | (go_at_call 26; with_reducible refine (HC1.out.call _).mono ?_; rintro e v3 ⟨rfl, B3⟩) | (go_at_call 26; with_reducible refine (HC2.out.call _).mono ?_; rintro e v4 ⟨rfl, B4⟩) | (go_at_call 24; with_reducible refine (HC3.out.call _).mono ?_; rintro e v5 ⟨rfl, B5⟩) | (go_at_call 24; with_reducible refine (HC4.out.call _).mono ?_; rintro e v6 ⟨rfl, B6⟩) | (go_at_call 26; with_reducible refine (HC5.out.call _).mono ?_; rintro e v7 ⟨rfl, B7⟩) | (go_at_call 24; with_reducible refine (HC6.out.call _).mono ?_; rintro e v8 ⟨rfl, B8⟩) | (go_at_call 26; with_reducible refine (HC7.out.call _).mono ?_; rintro e v9 ⟨rfl, B9⟩) | (go_at_call 19; refine (awake_any _).mono ?_; rintro e wz ⟨rfl, BZ⟩))
          go_ret
          exact ⟨rfl, by repeat (first | assumption | refine Below.on ?_ (by assumption))⟩
        · have ha2 : a.toList.isEmpty = false := by rw [hza]; simp [h]
          have ha3 : ¬ a.toList = [] := fun e => h (hzn.1 e)
          clear hza hzn h
          go_enter Try.func6, Try.ntmps6
          go_wp2_with (first | (go_at_call 21; with_reducible refine (HRF2.out _).mono ?_; rintro e w2 ⟨rfl, B2⟩) | (go_at_call 26; with_reducible refine (HC1.out.call _).mono ?_; rintro e v3 ⟨rfl, B3⟩) | (go_at_call 26; with_reducible refine (HC2.out.call _).mono ?_; rintro e v4 ⟨rfl, B4⟩) | (go_at_call 24; with_reducible refine (HC3.out.call _).mono ?_; rintro e v5 ⟨rfl, B5⟩) | (go_at_call 24; with_reducible refine (HC4.out.call _).mono ?_; rintro e v6 ⟨rfl, B6⟩) | (go_at_call 26; with_reducible refine (HC5.out.call _).mono ?_; rintro e v7 ⟨rfl, B7⟩) | (go_at_call 24; with_reducible refine (HC6.out.call _).mono ?_; rintro e v8 ⟨rfl, B8⟩) | (go_at_call 26; with_reducible refine (HC7.out.call _).mono ?_; rintro e v9 ⟨rfl, B9⟩) | (go_at_call 19; refine (awake_any _).mono ?_; rintro e wz ⟨rfl, BZ⟩))
          go_ret
          exact ⟨rfl, by repeat (first | assumption | refine Below.on ?_ (by assumption))⟩
  · have HRF2 := Lib.hid fun W => HRF.out W true (by simp only [hok, decide_false]; rfl)
    clear hok HRF hma hmb HDV
    go_enter Try.func6, Try.ntmps6
    go_wp2_with (first | (go_at_call 21; with_reducible refine (HRF2.out _).mono ?_; rintro e w2 ⟨rfl, B2⟩) | (go_at_call 19; refine (awake_any _).mono ?_; rintro e wz ⟨rfl, BZ⟩))
    go_ret
    exact ⟨rfl, by repeat (first | assumption | refine Below.on ?_ (by assumption))⟩
end Go.Proofs.Ytfhkpkebiinglaa
