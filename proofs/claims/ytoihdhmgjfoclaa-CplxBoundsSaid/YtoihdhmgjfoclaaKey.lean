/-
  The order of floats by their words: a float that is no NaN stands where its rung with its sign stands.
-/
import Ieee.Arith
namespace Go.Proofs.Ytoihdhmgjfoclaa
open Ieee

/-- A rung's magnitude, in units of the least float. -/
def val (r : Nat) : Nat := if r < 4503599627370496 then r else (4503599627370496 + r % 4503599627370496) * 2 ^ (r / 4503599627370496 - 1)

/-- A word's sign and rung as one whole number (the two zeros are one). -/
def key (x : Nat) : Int := if x / 9223372036854775808 % 2 = 1 then -(x % 9223372036854775808 : Nat) else (x % 9223372036854775808 : Nat)

theorem dsign : double.signWeight = 9223372036854775808 := by decide
theorem dbin : double.binade = 4503599627370496 := by decide
theorem dinf : double.infRung = 9218868437227405312 := by decide
theorem dleast : double.leastPlace = -1074 := by decide

theorem val_lt {r s : Nat} (h : r < s) : val r < val s := by
  unfold val
  split
  · split
    · exact h
    · have h1 : 1 ≤ 2 ^ (s / 4503599627370496 - 1) := Nat.one_le_two_pow
      have h2 := Nat.mul_le_mul (Nat.le_refl (4503599627370496 + s % 4503599627370496)) h1
      omega
  · rename_i hr
    have hs : ¬ s < 4503599627370496 := by omega
    rw [if_neg hs]
    by_cases he : r / 4503599627370496 = s / 4503599627370496
    · rw [he]
      have hm : r % 4503599627370496 < s % 4503599627370496 := by omega
      exact Nat.mul_lt_mul_of_pos_right (by omega) (Nat.two_pow_pos _)
    · have hlt : r / 4503599627370496 < s / 4503599627370496 := by omega
      have e1 : s / 4503599627370496 - 1 = (r / 4503599627370496 - 1) + (s / 4503599627370496 - 1 - (r / 4503599627370496 - 1)) := by omega
      have h2 : 2 ≤ 2 ^ (s / 4503599627370496 - 1 - (r / 4503599627370496 - 1)) := by
        have : 1 ≤ s / 4503599627370496 - 1 - (r / 4503599627370496 - 1) := by omega
        calc 2 = 2 ^ 1 := rfl
          _ ≤ _ := Nat.pow_le_pow_right (by omega) this
      rw [e1, Nat.pow_add]
      generalize 2 ^ (s / 4503599627370496 - 1 - (r / 4503599627370496 - 1)) = q at h2
      have hp := Nat.two_pow_pos (r / 4503599627370496 - 1)
      generalize 2 ^ (r / 4503599627370496 - 1) = p at hp ⊢
      have ha : 4503599627370496 + r % 4503599627370496 < 4503599627370496 * 2 := by omega
      calc (4503599627370496 + r % 4503599627370496) * p < (4503599627370496 * 2) * p := Nat.mul_lt_mul_of_pos_right ha hp
        _ ≤ (4503599627370496 * q) * p := Nat.mul_le_mul_right _ (Nat.mul_le_mul_left _ h2)
        _ = 4503599627370496 * (p * q) := by rw [Nat.mul_assoc, Nat.mul_comm q p]
        _ ≤ _ := Nat.mul_le_mul_right _ (by omega)

theorem val_le {r s : Nat} (h : r ≤ s) : val r ≤ val s := by
  rcases Nat.lt_or_eq_of_le h with h | rfl
  · exact Nat.le_of_lt (val_lt h)
  · exact Nat.le_refl _

theorem val_lt_iff {r s : Nat} : val r < val s ↔ r < s := ⟨fun h => by
  rcases Nat.lt_or_ge r s with h' | h'
  · exact h'
  · have := val_le h'; omega, val_lt⟩

theorem val_inj {r s : Nat} (h : val r = val s) : r = s := by
  rcases Nat.lt_trichotomy r s with h' | h' | h'
  · have := val_lt h'; omega
  · exact h'
  · have := val_lt h'; omega

/-- What a word's datum is, told by its rung. -/
inductive Reads (x : Nat) : Datum → Prop where
  | number (s : Bool) (m : Nat) (p : Nat) (hs : s = true ↔ x / 9223372036854775808 % 2 = 1) (hr : x % 9223372036854775808 < 9218868437227405312) (hv : m * 2 ^ p = val (x % 9223372036854775808)) : Reads x (.number s m (-1074 + p))
  | infinity (s : Bool) (hs : s = true ↔ x / 9223372036854775808 % 2 = 1) (hr : x % 9223372036854775808 = 9218868437227405312) : Reads x (.infinity s)
  | nan (s : Bool) (t : Nat) (hr : 9218868437227405312 < x % 9223372036854775808) : Reads x (.nan s t)

theorem reads (x : Nat) : Reads x (double.read x) := by
  unfold Format.read
  simp only [dsign, dbin, dinf, dleast]
  have hs : (x / 9223372036854775808 % 2 == 1) = true ↔ x / 9223372036854775808 % 2 = 1 := by simp
  split
  · have := Reads.number (x := x) _ (x % 9223372036854775808) 0 hs (by omega) (by unfold val; rw [if_pos (by assumption)]; simp)
    simpa using this
  · split
    · refine .number _ _ (x % 9223372036854775808 / 4503599627370496 - 1) hs (by assumption) ?_
      unfold val
      rw [if_neg (by assumption)]
    · split
      · exact .infinity _ hs (by assumption)
      · exact .nan _ _ (by omega)

theorem isNaN_iff (x : Nat) : (double.read x).isNaN = true ↔ 9218868437227405312 < x % 9223372036854775808 := by
  have h := reads x
  generalize double.read x = d at h ⊢
  cases h with
  | number s m p hs hr hv => simp [Datum.isNaN]; omega
  | infinity s hs hr => simp [Datum.isNaN]; omega
  | nan s t hr => simp [Datum.isNaN]; omega

theorem signed_eq (s : Bool) (m k : Nat) : signed s m k = if s then -((m * 2 ^ k : Nat) : Int) else ((m * 2 ^ k : Nat) : Int) := by
  unfold signed
  rw [Nat.shiftLeft_eq]

theorem compare_shift (s t : Bool) (a b c : Nat) (hc : 0 < c) :
    compare (if s then -((a * c : Nat) : Int) else ((a * c : Nat) : Int)) (if t then -((b * c : Nat) : Int) else ((b * c : Nat) : Int)) = compare (if s then -(a : Int) else (a : Int)) (if t then -(b : Int) else (b : Int)) := by
  have key : ∀ x y : Int, compare (x * c) (y * c) = compare x y := by
    intro x y
    have hc' : (0 : Int) < c := by omega
    simp only [compare, compareOfLessAndEq]
    rcases Int.lt_trichotomy x y with h | h | h
    · rw [if_pos h, if_pos (Int.mul_lt_mul_of_pos_right h hc')]
    · subst h; simp
    · have h' := Int.mul_lt_mul_of_pos_right h hc'
      rw [if_neg (by omega), if_neg (by omega), if_neg (by omega), if_neg (by omega)]
  have := key (if s then -(a : Int) else (a : Int)) (if t then -(b : Int) else (b : Int))
  rw [← this]
  congr 1 <;> split <;> simp [Int.neg_mul]

theorem compare_val (s t : Bool) (a b : Nat) :
    compare (if s then -((val a : Nat) : Int) else ((val a : Nat) : Int)) (if t then -((val b : Nat) : Int) else ((val b : Nat) : Int)) = compare (if s then -(a : Int) else (a : Int)) (if t then -(b : Int) else (b : Int)) := by
  have z : val 0 = 0 := by unfold val; simp
  have h1 := @val_lt_iff a b
  have h2 := @val_lt_iff b a
  have h3 := @val_lt_iff 0 a
  have h4 := @val_lt_iff 0 b
  rw [z] at h3 h4
  simp only [compare, compareOfLessAndEq]
  cases s <;> cases t <;> simp only [Bool.false_eq_true, if_true, if_false] <;> (repeat' split) <;> first | rfl | omega

theorem order_key {x y : Nat} (hx : (double.read x).isNaN = false) (hy : (double.read y).isNaN = false) : double.order x y = some (compare (key x) (key y)) := by
  unfold Format.order key
  have h1 := reads x
  have h2 := reads y
  generalize double.read x = dx at hx h1
  generalize double.read y = dy at hy h2
  cases h1 with
  | nan s t hr => cases hx
  | infinity s hs hr =>
    cases h2 with
    | nan => cases hy
    | infinity t ht hr' =>
      simp only [Datum.order, ← hs, ← ht, hr, hr']
      cases s <;> cases t <;> rfl
    | number t n q ht hr' hv' =>
      simp only [Datum.order, ← hs, ← ht, hr]
      generalize y % 9223372036854775808 = b at hr'
      simp only [compare, compareOfLessAndEq]
      cases s <;> cases t <;> simp only [Bool.false_eq_true, if_true, if_false] <;> (repeat' split) <;> first | rfl | omega
  | number s m p hs hr hv =>
    cases h2 with
    | nan => cases hy
    | infinity t ht hr' =>
      simp only [Datum.order, ← hs, ← ht, hr']
      generalize x % 9223372036854775808 = b at hr
      simp only [compare, compareOfLessAndEq]
      cases s <;> cases t <;> simp only [Bool.false_eq_true, if_true, if_false] <;> (repeat' split) <;> first | rfl | omega
    | number t n q ht hr' hv' =>
      simp only [Datum.order, ← hs, ← ht, signed_eq]
      rw [← compare_val s t (x % 9223372036854775808) (y % 9223372036854775808), ← hv, ← hv']
      have e1 : (-1074 + (p : Int) - min (-1074 + (p : Int)) (-1074 + q)).toNat = p - min p q := by omega
      have e2 : (-1074 + (q : Int) - min (-1074 + (p : Int)) (-1074 + q)).toNat = q - min p q := by omega
      rw [e1, e2]
      have f1 : m * 2 ^ p = m * 2 ^ (p - min p q) * 2 ^ (min p q) := by rw [Nat.mul_assoc, ← Nat.pow_add]; congr 2; omega
      have f2 : n * 2 ^ q = n * 2 ^ (q - min p q) * 2 ^ (min p q) := by rw [Nat.mul_assoc, ← Nat.pow_add]; congr 2; omega
      rw [f1, f2, compare_shift _ _ _ _ _ (Nat.two_pow_pos _)]
#print axioms order_key
end Go.Proofs.Ytoihdhmgjfoclaa
