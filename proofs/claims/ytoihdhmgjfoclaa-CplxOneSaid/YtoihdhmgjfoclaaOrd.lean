/-
  The walks of the order by bits, the program's and the document's.
-/
import Derived.Test.YtoihdhmgjfoclaaWd
namespace Go.Proofs.Ytoihdhmgjfoclaa
open Go.RowKit

/-- Where a float stands in the order of bits. -/
def placeN (x : Nat) : Nat := if isN x then 18437736874454810626 else if 9223372036854775808 ≤ x then 9218868437227405312 - x % 9223372036854775808 else 9218868437227405313 + x
def rplaceZ (x : Nat) : Int := if isN x then 9223372036854775807 else if 9223372036854775808 ≤ x then -(x % 9223372036854775808 : Nat) - 1 else (x : Int)

theorem place_neg (x : Nat) (h : isN x = false) : IntKind.u64.wrap (9218868437227405312 - ((x : Int) % 9223372036854775808)) = ((9218868437227405312 - x % 9223372036854775808 : Nat) : Int) := by
  unfold isN at h
  simp at h
  rw [IntKind.wrap_u64]
  omega
theorem place_pos (x : Nat) (_h : isN x = false) (hs : x < 9223372036854775808) : IntKind.u64.wrap (9218868437227405313 + (x : Int)) = ((9218868437227405313 + x : Nat) : Int) := by
  rw [IntKind.wrap_u64]
  omega
theorem placeN_lt (x : Nat) : placeN x < 18446744073709551616 := by
  unfold placeN isN
  split
  · omega
  · split
    · omega
    · rename_i h1 h2; simp at h1; omega

theorem place_any (x : Nat) (hx : x < 18446744073709551616) (w : World) :
    Calls Try.prog 98 #[.float .f64 x] w fun e w' => e = .returned (.int .u64 (placeN x : Nat)) ∧ w' = w := by
  cases h1 : isN x
  · go_enter Try.func98, Try.ntmps98
    go_wp2
    · have h4 := sg_yes (x := x) (by assumption)
      go_ret
      exact ⟨ret_i (by rw [place_neg x h1]; unfold placeN; rw [h1, if_neg (by decide), if_pos h4]), rfl⟩
    · have h4 := sg_no (x := x) (by assumption)
      go_ret
      exact ⟨ret_i (by rw [place_pos x h1 (by omega)]; unfold placeN; rw [h1, if_neg (by decide), if_neg h4]), rfl⟩
  · go_enter Try.func98, Try.ntmps98
    go_wp2
    go_ret
    exact ⟨ret_i (by unfold placeN; rw [h1]; rfl), rfl⟩

def ordI (a b : Nat) : Int := if a < b then -1 else if b < a then 1 else 0
theorem border_any (x y : Nat) (hx : x < 18446744073709551616) (hy : y < 18446744073709551616) (w : World) :
    Calls Try.prog 90 #[.float .f64 x, .float .f64 y] w fun e w' => e = .returned (.int .i64 (ordI (placeN x) (placeN y))) ∧ w' = w := by
  go_enter Try.func90, Try.ntmps90
  go_wp2_with (go_at_call 98; refine (place_any _ (by assumption) _).mono ?_; rintro e w' ⟨rfl, rfl⟩)
  · have h : placeN x < placeN y := by assumption
    go_ret
    exact ⟨ret_i (by unfold ordI; rw [if_pos (by omega)]), rfl⟩
  · have h : placeN y < placeN x := by assumption
    go_ret
    exact ⟨ret_i (by unfold ordI; rw [if_neg (by omega), if_pos (by omega)]), rfl⟩
  · have h : ¬placeN x < placeN y := by assumption
    have h' : ¬placeN y < placeN x := by assumption
    go_ret
    exact ⟨ret_i (by unfold ordI; rw [if_neg (by omega), if_neg (by omega)]), rfl⟩

def ordC (a b c d : Nat) : Int := if ordI (placeN a) (placeN c) ≠ 0 then ordI (placeN a) (placeN c) else ordI (placeN b) (placeN d)
theorem order_any (a b c d : Nat) (ha : a < 18446744073709551616) (hb : b < 18446744073709551616) (hc : c < 18446744073709551616) (hd : d < 18446744073709551616) (w : World) :
    Calls Try.prog 59 #[.complex .f64 a b, .complex .f64 c d] w fun e w' => e = .returned (.int .i64 (ordC a b c d)) ∧ w' = w := by
  by_cases h : ordI (placeN a) (placeN c) = 0
  · have h' : (ordI (placeN a) (placeN c) != 0) = false := by simpa using h
    go_enter Try.func59, Try.ntmps59
    go_wp2_with (go_at_call 90; refine (border_any _ _ (by assumption) (by assumption) _).mono ?_; rintro e w' ⟨rfl, rfl⟩)
    go_ret
    exact ⟨ret_i (by unfold ordC; rw [if_neg (by omega)]), rfl⟩
  · have h' : (ordI (placeN a) (placeN c) != 0) = true := by simpa using h
    go_enter Try.func59, Try.ntmps59
    go_wp2_with (go_at_call 90; refine (border_any _ _ (by assumption) (by assumption) _).mono ?_; rintro e w' ⟨rfl, rfl⟩)
    go_ret
    exact ⟨ret_i (by unfold ordC; rw [if_pos h]), rfl⟩

theorem low_bits (x : Nat) (hx : x < 18446744073709551616) : bits .and .u64 (x : Int) 9223372036854775807 = ((x % 9223372036854775808 : Nat) : Int) := by
  rw [show (9223372036854775807 : Int) = ((9223372036854775807 : Nat) : Int) from rfl, bits_and64 x _ hx (by omega)]
  rw [show 9223372036854775807 = 2 ^ 63 - 1 from rfl, Nat.and_two_pow_sub_one_eq_mod]
attribute [local go_sem] low_bits

theorem rplace_any (x : Nat) (hx : x < 18446744073709551616) (w : World) :
    Calls Try.prog 91 #[.float .f64 x] w fun e w' => e = .returned (.int .i64 (rplaceZ x)) ∧ w' = w := by
  have hm : x % 9223372036854775808 < 9223372036854775808 := Nat.mod_lt _ (by omega)
  cases h1 : isN x
  · cases h2 : sgB x
    · have h3 : ¬ 9223372036854775808 ≤ x := by unfold sgB at h2; simpa using h2
      go_enter Try.func91, Try.ntmps91
      go_wp2_with (go_at_call 53; refine (signbit_any _ (by assumption) _).mono ?_; rintro e w' ⟨rfl, rfl⟩)
      go_ret
      exact ⟨ret_i (by unfold rplaceZ; rw [h1, if_neg (by decide), if_neg h3]; omega), rfl⟩
    · have h3 : 9223372036854775808 ≤ x := by unfold sgB at h2; simpa using h2
      go_enter Try.func91, Try.ntmps91
      go_wp2_with (go_at_call 53; refine (signbit_any _ (by assumption) _).mono ?_; rintro e w' ⟨rfl, rfl⟩)
      go_ret
      exact ⟨ret_i (by unfold rplaceZ; rw [h1, if_neg (by decide), if_pos h3]; omega), rfl⟩
  · go_enter Try.func91, Try.ntmps91
    go_wp2
    go_ret
    exact ⟨ret_i (by unfold rplaceZ; rw [h1]; rfl), rfl⟩

theorem rplace_place (x : Nat) (h : isN x = false) : rplaceZ x = (placeN x : Int) - 9218868437227405313 := by
  unfold rplaceZ placeN
  simp only [h, Bool.false_eq_true, if_false]
  unfold isN at h
  simp at h
  split <;> omega
theorem rplace_lt {x y : Nat} : rplaceZ x < rplaceZ y ↔ placeN x < placeN y := by
  have bd : ∀ z, isN z = false → placeN z < 18437736874454810626 := by
    intro z h
    unfold placeN
    rw [h, if_neg (by decide)]
    unfold isN at h
    simp at h
    split <;> omega
  have nn : ∀ z, isN z = true → placeN z = 18437736874454810626 ∧ rplaceZ z = 9223372036854775807 := by
    intro z h; unfold placeN rplaceZ; rw [h]; exact ⟨rfl, rfl⟩
  cases hx : isN x <;> cases hy : isN y
  · rw [rplace_place x hx, rplace_place y hy]; omega
  · have := bd x hx; have e := nn y hy; rw [rplace_place x hx, e.1, e.2]; omega
  · have := bd y hy; have e := nn x hx; rw [rplace_place y hy, e.1, e.2]; omega
  · have e := nn x hx; have e' := nn y hy; rw [e.1, e.2, e'.1, e'.2]; omega
theorem rplace_eq {x y : Nat} : rplaceZ x = rplaceZ y ↔ placeN x = placeN y := by
  have h1 := @rplace_lt x y
  have h2 := @rplace_lt y x
  omega

def rordI (a b : Int) : Int := if a < b then -1 else if b < a then 1 else 0
theorem rordI_ordI (x y : Nat) : rordI (rplaceZ x) (rplaceZ y) = ordI (placeN x) (placeN y) := by
  have h1 := @rplace_lt x y
  have h2 := @rplace_lt y x
  unfold rordI ordI
  by_cases a : placeN x < placeN y
  · rw [if_pos a, if_pos (h1.2 a)]
  · rw [if_neg a, if_neg (fun k => a (h1.1 k))]
    by_cases b : placeN y < placeN x
    · rw [if_pos b, if_pos (h2.2 b)]
    · rw [if_neg b, if_neg (fun k => b (h2.1 k))]

theorem rorder_any (a b c d : Nat) (ha : a < 18446744073709551616) (hb : b < 18446744073709551616) (hc : c < 18446744073709551616) (hd : d < 18446744073709551616) (w : World) :
    Calls Try.prog 61 #[.complex .f64 a b, .complex .f64 c d] w fun e w' => e = .returned (.int .i64 (ordC a b c d)) ∧ w' = w := by
  have key : ∀ x y : Int, (x < y → rordI x y = -1) ∧ (y ≤ x → y < x → rordI x y = 1) ∧ (y ≤ x → x ≤ y → rordI x y = 0) := by
    intro x y; unfold rordI; refine ⟨fun h => by rw [if_pos h], fun h h' => by rw [if_neg (by omega), if_pos h'], fun h h' => by rw [if_neg (by omega), if_neg (by omega)]⟩
  by_cases h : rplaceZ a = rplaceZ c
  · have e1 : ordC a b c d = rordI (rplaceZ b) (rplaceZ d) := by
      have := rplace_eq.1 h
      unfold ordC; rw [if_neg (by unfold ordI; rw [this]; simp), rordI_ordI]
    have K := Lib.hid (key (rplaceZ b) (rplaceZ d))
    have E := Lib.hid e1
    have h' : (rplaceZ a == rplaceZ c) = true := by simpa using h
    clear key e1 h
    go_enter Try.func61, Try.ntmps61
    go_wp2_with (go_at_call 91; refine (rplace_any _ (by assumption) _).mono ?_; rintro e w' ⟨rfl, rfl⟩)
    · have t1 : rplaceZ b < rplaceZ d := by omega
      go_ret
      exact ⟨ret_i (by rw [E.out, (K.out).1 t1]), rfl⟩
    · have t1 : rplaceZ d ≤ rplaceZ b := by omega
      have t2 : rplaceZ d < rplaceZ b := by omega
      go_ret
      exact ⟨ret_i (by rw [E.out, (K.out).2.1 t1 t2]), rfl⟩
    · have t1 : rplaceZ d ≤ rplaceZ b := by omega
      have t2 : rplaceZ b ≤ rplaceZ d := by omega
      go_ret
      exact ⟨ret_i (by rw [E.out, (K.out).2.2 t1 t2]), rfl⟩
  · have e1 : ordC a b c d = rordI (rplaceZ a) (rplaceZ c) := by
      rw [rordI_ordI]
      have : placeN a ≠ placeN c := fun k => h (rplace_eq.2 k)
      unfold ordC; rw [if_pos]
      unfold ordI; split
      · decide
      · split
        · decide
        · omega
    have K := Lib.hid (key (rplaceZ a) (rplaceZ c))
    have E := Lib.hid e1
    have h' : (rplaceZ a == rplaceZ c) = false := by simpa using h
    clear key e1 h
    go_enter Try.func61, Try.ntmps61
    go_wp2_with (go_at_call 91; refine (rplace_any _ (by assumption) _).mono ?_; rintro e w' ⟨rfl, rfl⟩)
    · have t1 : rplaceZ a < rplaceZ c := by omega
      go_ret
      exact ⟨ret_i (by rw [E.out, (K.out).1 t1]), rfl⟩
    · have t1 : rplaceZ c ≤ rplaceZ a := by omega
      have t2 : rplaceZ c < rplaceZ a := by omega
      go_ret
      exact ⟨ret_i (by rw [E.out, (K.out).2.1 t1 t2]), rfl⟩
    · have t1 : rplaceZ c ≤ rplaceZ a := by omega
      have t2 : rplaceZ a ≤ rplaceZ c := by omega
      go_ret
      exact ⟨ret_i (by rw [E.out, (K.out).2.2 t1 t2]), rfl⟩

def quoT (c d : Option Nat) : Option Nat := fo .quo d c
def quoR (a b c d : Nat) : Option Nat :=
  if leF (d % 9223372036854775808) (c % 9223372036854775808) then fo .quo (fo .add (cn a) (fo .mul (cn b) (fo .quo (cn d) (cn c)))) (fo .add (cn c) (fo .mul (cn d) (fo .quo (cn d) (cn c))))
  else fo .quo (fo .add (fo .mul (cn a) (fo .quo (cn c) (cn d))) (cn b)) (fo .add (cn d) (fo .mul (cn c) (fo .quo (cn c) (cn d))))
def quoI (a b c d : Nat) : Option Nat :=
  if leF (d % 9223372036854775808) (c % 9223372036854775808) then fo .quo (fo .sub (cn b) (fo .mul (cn a) (fo .quo (cn d) (cn c)))) (fo .add (cn c) (fo .mul (cn d) (fo .quo (cn d) (cn c))))
  else fo .quo (fo .sub (fo .mul (cn b) (fo .quo (cn c) (cn d))) (cn a)) (fo .add (cn d) (fo .mul (cn c) (fo .quo (cn c) (cn d))))
theorem quo_any (a b c d : Nat) (hc : c < 18446744073709551616) (hd : d < 18446744073709551616) (w : World) :
    Calls Try.prog 64 #[.complex .f64 a b, .complex .f64 c d] w fun e w' => ∃ re im n, e = .returned (.complex .f64 re im) ∧ w' = w.drewN n ∧ FV re (quoR a b c d) ∧ FV im (quoI a b c d) := by
  cases h : leF (d % 9223372036854775808) (c % 9223372036854775808) <;>
  · go_enter Try.func64, Try.ntmps64
    go_wp2_with (first | ((with_reducible apply wpList_add); exact rfl; exact rfl; intro z n hz) | ((with_reducible apply wpList_sub); exact rfl; exact rfl; intro z n hz) | ((with_reducible apply wpList_mul); exact rfl; exact rfl; intro z n hz) | ((with_reducible apply wpList_quo); exact rfl; exact rfl; intro z n hz) | (go_at_call 71; refine (abs_any _ (by assumption) _).mono ?_; rintro e w' ⟨rfl, rfl⟩))
    go_ret
    refine ⟨_, _, _, rfl, rfl, ?_, ?_⟩
    all_goals (simp only [fvIff] at *; simp [*, quoR, quoI])
theorem rquo_any (a b c d : Nat) (hc : c < 18446744073709551616) (hd : d < 18446744073709551616) (w : World) :
    Calls Try.prog 65 #[.complex .f64 a b, .complex .f64 c d] w fun e w' => ∃ re im n, e = .returned (.complex .f64 re im) ∧ w' = w.drewN n ∧ FV re (quoR a b c d) ∧ FV im (quoI a b c d) := by
  cases h : leF (d % 9223372036854775808) (c % 9223372036854775808) <;>
  · go_enter Try.func65, Try.ntmps65
    go_wp2_with (first | ((with_reducible apply wpList_add); exact rfl; exact rfl; intro z n hz) | ((with_reducible apply wpList_sub); exact rfl; exact rfl; intro z n hz) | ((with_reducible apply wpList_mul); exact rfl; exact rfl; intro z n hz) | ((with_reducible apply wpList_quo); exact rfl; exact rfl; intro z n hz) | (go_at_call 71; refine (abs_any _ (by assumption) _).mono ?_; rintro e w' ⟨rfl, rfl⟩))
    go_ret
    refine ⟨_, _, _, rfl, rfl, ?_, ?_⟩
    all_goals (simp only [fvIff] at *; simp [*, quoR, quoI])
end Go.Proofs.Ytoihdhmgjfoclaa
