/-
  The walks of the small functions on floats, at the numbers that the examples meet.
-/
import Derived.Test.YtinlachbnflpoaaFl
import Derived.Lib.Hide
import Derived.Below
namespace Go.Proofs.Ytinlachbnflpoaa
open Go.RowKit

@[go_sem] theorem ext27 (n : Int) (w : World) : (callFunc 27 #[.int .u64 n]).run Try.prog w = .ok (.value (.float .f64 n.toNat)) w := by
  rw [run_callFunc_extern Try.func27 (by kernel_rfl) (by kernel_rfl) (by kernel_rfl) (e := Extern.MathFloatBits.float64frombits) (by kernel_rfl)]
  rfl
@[go_sem] theorem ext13 (n : Nat) (w : World) : (callFunc 13 #[.float .f64 n]).run Try.prog w = .ok (.value (.int .u64 n)) w := by
  rw [run_callFunc_extern Try.func13 (by kernel_rfl) (by kernel_rfl) (by kernel_rfl) (e := Extern.MathFloatBits.float64bits) (by kernel_rfl)]
  rfl
theorem ret_b {a b : Bool} (h : a = b) : Ending.returned (.bool a) = Ending.returned (.bool b) := by rw [h]
theorem abs_any (x : Nat) (hx : x < 18446744073709551616) (w : World) :
    Calls Try.prog 20 #[.float .f64 x] w fun e w' => e = .returned (.float .f64 (x % 9223372036854775808)) ∧ w = w' := by
  go_enter Try.func20, Try.ntmps20
  go_wp2
  go_ret
  exact ⟨rfl, rfl⟩
theorem nan_any (x : Nat) (w : World) :
    Calls Try.prog 29 #[.float .f64 x] w fun e w' => e = .returned (.bool (isN x)) ∧ w = w' := by
  go_enter Try.func29, Try.ntmps29
  go_wp2
  go_ret
  exact ⟨rfl, rfl⟩
def infB (x : Nat) : Bool := decide (x % 9223372036854775808 = 9218868437227405312)
theorem isN_max : isN 9218868437227405311 = false := by decide
theorem key_max : key 9218868437227405311 = 9218868437227405311 := by decide
theorem ltF_max_abs (x : Nat) : ltF 9218868437227405311 (x % 9223372036854775808) = infB x := by
  unfold ltF infB
  rw [isN_max, key_max]
  unfold isN key
  rw [Bool.eq_iff_iff]
  simp
  omega
theorem inf0_any (x : Nat) (hx : x < 18446744073709551616) (w : World) :
    Calls Try.prog 28 #[.float .f64 x] w fun e w' => e = .returned (.bool (infB x)) ∧ w = w' := by
  go_enter Try.func28, Try.ntmps28
  go_wp2
  go_ret
  exact ⟨ret_b (ltF_max_abs x), rfl⟩
/-- A finite number. -/
structure Fi (x : Nat) : Prop where
  lt : x < 18446744073709551616
  inf : infB x = false
  nan : isN x = false
theorem kind_fi (a b : Nat) (ha : Fi a) (hb : Fi b) (w : World) :
    Calls Try.prog 21 #[.complex .f64 a b] w fun e w' => e = .returned (.int .u8 0) ∧ w = w' := by
  have h1 := ha.lt
  have h2 := hb.lt
  have h3 := ha.inf
  have h4 := hb.inf
  have h5 := ha.nan
  have h6 := hb.nan
  go_enter Try.func21, Try.ntmps21
  go_wp2_with (first | (go_at_call 28; refine (inf0_any _ (by assumption) _).mono ?_; rintro e w' ⟨rfl, rfl⟩) | (go_at_call 29; refine (nan_any _ _).mono ?_; rintro e w' ⟨rfl, rfl⟩))
  go_ret
  exact ⟨rfl, rfl⟩
theorem finite_r (a b : Nat) (ha : Fi a) (hb : Fi b) (w : World) :
    Calls Try.prog 15 #[.complex .f64 a b] w fun e w' => e = .returned (.bool true) ∧ w = w' := by
  have HK := Lib.hid fun W => kind_fi a b ha hb W
  clear ha hb
  go_enter Try.func15, Try.ntmps15
  go_wp2_with (first | (go_at_call 21; refine (HK.out _).mono ?_; rintro e w' ⟨rfl, rfl⟩))
  go_ret
  exact ⟨rfl, rfl⟩
theorem finite_p (a b : Nat) (ha : Fi a) (hb : Fi b) (w : World) :
    Calls Try.prog 25 #[.complex .f64 a b] w fun e w' => e = .returned (.bool true) ∧ w = w' := by
  have HK := Lib.hid fun W => kind_fi a b ha hb W
  clear ha hb
  go_enter Try.func25, Try.ntmps25
  go_wp2_with (first | (go_at_call 21; refine (HK.out _).mono ?_; rintro e w' ⟨rfl, rfl⟩))
  go_ret
  exact ⟨rfl, rfl⟩
theorem same_zero (w : World) : Calls Try.prog 19 #[.complex .f64 0 0, .complex .f64 0 0] w fun e w' => e = .returned (.bool true) ∧ w = w' := by
  go_enter Try.func19, Try.ntmps19
  go_wp2
  go_ret
  exact ⟨rfl, rfl⟩
theorem zero_any (a b : Nat) (w : World) :
    Calls Try.prog 24 #[.complex .f64 a b] w fun e w' => e = .returned (.bool (eqF a 0 && eqF b 0)) ∧ w = w' := by
  go_enter Try.func24, Try.ntmps24
  go_wp2
  go_ret
  exact ⟨ret_b (by rw [← order_eq, ← order_eq]), rfl⟩
theorem fv_eq {r c : Nat} {o : Option Nat} (h : FV r o) (ho : o = some c) : c = r := cn_some (h.cn.trans ho)
theorem below_drewN {B : Nat} {a w : World} (h : Below B a w) (n : Nat) : Below B a (w.drewN n) := ⟨h.os, h.tape, h.output, h.size, h.block⟩
/-- Twice one plus nought: the words of the whole numbers up to 5. -/
def fw (k : Nat) : Nat := if k = 0 then 0 else if k = 1 then 4607182418800017408 else if k = 2 then 4611686018427387904 else if k = 3 then 4613937818241073152 else if k = 4 then 4616189618054758400 else 4617315517961601024
def addR (a _b c _d : Option Nat) : Option Nat := fo .add a c
def addI (_a b _c d : Option Nat) : Option Nat := fo .add b d
def mulR (a b c d : Option Nat) : Option Nat := fo .sub (fo .mul a c) (fo .mul b d)
def mulI (a b c d : Option Nat) : Option Nat := fo .add (fo .mul a d) (fo .mul b c)
theorem add_any (a b c d : Nat) (w : World) :
    Calls Try.prog 33 #[.complex .f64 a b, .complex .f64 c d] w fun e w' => ∃ re im n, e = .returned (.complex .f64 re im) ∧ w' = w.drewN n ∧ FV re (addR (cn a) (cn b) (cn c) (cn d)) ∧ FV im (addI (cn a) (cn b) (cn c) (cn d)) := by
  go_enter Try.func33, Try.ntmps33
  go_wp2_with (first | ((with_reducible apply wpList_add); exact rfl; exact rfl; intro z n hz) | ((with_reducible apply wpList_sub); exact rfl; exact rfl; intro z n hz) | ((with_reducible apply wpList_mul); exact rfl; exact rfl; intro z n hz) | ((with_reducible apply wpList_quo); exact rfl; exact rfl; intro z n hz))
  go_ret
  refine ⟨_, _, _, rfl, rfl, ?_, ?_⟩
  all_goals (simp only [fvIff] at *; simp [*, addR, addI])
theorem mul_any (a b c d : Nat) (w : World) :
    Calls Try.prog 34 #[.complex .f64 a b, .complex .f64 c d] w fun e w' => ∃ re im n, e = .returned (.complex .f64 re im) ∧ w' = w.drewN n ∧ FV re (mulR (cn a) (cn b) (cn c) (cn d)) ∧ FV im (mulI (cn a) (cn b) (cn c) (cn d)) := by
  go_enter Try.func34, Try.ntmps34
  go_wp2_with (first | ((with_reducible apply wpList_add); exact rfl; exact rfl; intro z n hz) | ((with_reducible apply wpList_sub); exact rfl; exact rfl; intro z n hz) | ((with_reducible apply wpList_mul); exact rfl; exact rfl; intro z n hz) | ((with_reducible apply wpList_quo); exact rfl; exact rfl; intro z n hz))
  go_ret
  refine ⟨_, _, _, rfl, rfl, ?_, ?_⟩
  all_goals (simp only [fvIff] at *; simp [*, mulR, mulI])
/-- Real numbers' sum and product. -/
theorem add_re (a c r : Nat) (hr : addR (cn a) (cn 0) (cn c) (cn 0) = some r) (w : World) :
    Calls Try.prog 33 #[.complex .f64 a 0, .complex .f64 c 0] w fun e w' => e = .returned (.complex .f64 r 0) ∧ Below w.heap.size w w' := by
  refine (add_any a 0 c 0 w).mono ?_
  rintro e w' ⟨re, im, n, rfl, rfl, h1, h2⟩
  have h3 : addI (cn a) (cn 0) (cn c) (cn 0) = some 0 := by show fo .add (cn 0) (cn 0) = some 0; decide +kernel
  obtain rfl := fv_eq h1 hr
  obtain rfl := fv_eq h2 h3
  exact ⟨rfl, below_drewN (Below.refl _ _) n⟩
theorem mul_re (a c r : Nat) (hr : mulR (cn a) (cn 0) (cn c) (cn 0) = some r) (hi : mulI (cn a) (cn 0) (cn c) (cn 0) = some 0) (w : World) :
    Calls Try.prog 34 #[.complex .f64 a 0, .complex .f64 c 0] w fun e w' => e = .returned (.complex .f64 r 0) ∧ Below w.heap.size w w' := by
  refine (mul_any a 0 c 0 w).mono ?_
  rintro e w' ⟨re, im, n, rfl, rfl, h1, h2⟩
  obtain rfl := fv_eq h1 hr
  obtain rfl := fv_eq h2 hi
  exact ⟨rfl, below_drewN (Below.refl _ _) n⟩
theorem fw_mul : ∀ k : Fin 6, mulR (cn (fw 1)) (cn 0) (cn (fw k.val)) (cn 0) = some (fw k.val) ∧ mulI (cn (fw 1)) (cn 0) (cn (fw k.val)) (cn 0) = some 0 := by decide +kernel
theorem fw_add : ∀ k : Fin 5, addR (cn (fw k.val)) (cn 0) (cn (fw 1)) (cn 0) = some (fw (k.val + 1)) := by decide +kernel
theorem fw_zero : mulR (cn 0) (cn 0) (cn 0) (cn 0) = some 0 ∧ mulI (cn 0) (cn 0) (cn 0) (cn 0) = some 0 ∧ addR (cn 0) (cn 0) (cn 0) (cn 0) = some 0 := by decide +kernel
theorem fw_fi : ∀ k : Fin 6, fw k.val < 18446744073709551616 ∧ infB (fw k.val) = false ∧ isN (fw k.val) = false := by decide +kernel
theorem fi_fw (k : Nat) (hk : k ≤ 5) : Fi (fw k) := by
  obtain ⟨h1, h2, h3⟩ := fw_fi ⟨k, by omega⟩
  exact ⟨h1, h2, h3⟩
theorem fi_zero : Fi 0 := fi_fw 0 (by omega)
end Go.Proofs.Ytinlachbnflpoaa
