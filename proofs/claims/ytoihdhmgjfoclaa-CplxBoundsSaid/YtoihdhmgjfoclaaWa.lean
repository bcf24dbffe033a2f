/-
  The walks of the small functions on floats.
-/
import Derived.Test.YtoihdhmgjfoclaaFl
namespace Go.Proofs.Ytoihdhmgjfoclaa
open Go.RowKit

@[go_sem] theorem ext20 (n : Int) (w : World) : (callFunc 20 #[.int .u64 n]).run Try.prog w = .ok (.value (.float .f64 n.toNat)) w := by
  rw [run_callFunc_extern Try.func20 (by kernel_rfl) (by kernel_rfl) (by kernel_rfl) (e := Extern.MathFloatBits.float64frombits) (by kernel_rfl)]
  rfl
@[go_sem] theorem ext88 (n : Nat) (w : World) : (callFunc 88 #[.float .f64 n]).run Try.prog w = .ok (.value (.int .u64 n)) w := by
  rw [run_callFunc_extern Try.func88 (by kernel_rfl) (by kernel_rfl) (by kernel_rfl) (e := Extern.MathFloatBits.float64bits) (by kernel_rfl)]
  rfl
@[go_sem] theorem ext30 (n : Int) (w : World) : (callFunc 30 #[.int .u32 n]).run Try.prog w = .ok (.value (.float .f32 n.toNat)) w := by
  rw [run_callFunc_extern Try.func30 (by kernel_rfl) (by kernel_rfl) (by kernel_rfl) (e := Extern.MathFloatBits.float32frombits) (by kernel_rfl)]
  rfl

theorem of_any (a b : Int) (w : World) :
    Calls Try.prog 13 #[.int .u64 a, .int .u64 b] w fun e w' => e = .returned (.complex .f64 a.toNat b.toNat) ∧ w' = w := by
  go_enter Try.func13, Try.ntmps13
  go_wp2
  go_ret
  exact ⟨rfl, rfl⟩

theorem abs_any (x : Nat) (hx : x < 18446744073709551616) (w : World) :
    Calls Try.prog 71 #[.float .f64 x] w fun e w' => e = .returned (.float .f64 (x % 9223372036854775808)) ∧ w' = w := by
  go_enter Try.func71, Try.ntmps71
  go_wp2
  go_ret
  exact ⟨rfl, rfl⟩

theorem nan_any (x : Nat) (w : World) :
    Calls Try.prog 86 #[.float .f64 x] w fun e w' => e = .returned (.bool (isN x)) ∧ w' = w := by
  go_enter Try.func86, Try.ntmps86
  go_wp2
  go_ret
  exact ⟨rfl, rfl⟩

def scaleR (a _b c : Option Nat) : Option Nat := fo .mul a c
def scaleI (_a b c : Option Nat) : Option Nat := fo .mul b c
def addR (a _b c _d : Option Nat) : Option Nat := fo .add a c
def addI (_a b _c d : Option Nat) : Option Nat := fo .add b d
def subR (a _b c _d : Option Nat) : Option Nat := fo .sub a c
def subI (_a b _c d : Option Nat) : Option Nat := fo .sub b d
def mulR (a b c d : Option Nat) : Option Nat := fo .sub (fo .mul a c) (fo .mul b d)
def mulI (a b c d : Option Nat) : Option Nat := fo .add (fo .mul a d) (fo .mul b c)
def sqR (a b : Option Nat) : Option Nat := fo .mul (fo .sub a b) (fo .add a b)
def sqI (a b : Option Nat) : Option Nat := fo .mul (fo .mul (cn 4611686018427387904) a) b

theorem scale_any (a b c : Nat) (w : World) :
    Calls Try.prog 22 #[.complex .f64 a b, .float .f64 c] w fun e w' => ∃ re im n, e = .returned (.complex .f64 re im) ∧ w' = w.drewN n ∧ FV re (scaleR (cn a) (cn b) (cn c)) ∧ FV im (scaleI (cn a) (cn b) (cn c)) := by
  go_enter Try.func22, Try.ntmps22
  go_wp2_with (first | ((with_reducible apply wpList_add); exact rfl; exact rfl; intro z n hz) | ((with_reducible apply wpList_sub); exact rfl; exact rfl; intro z n hz) | ((with_reducible apply wpList_mul); exact rfl; exact rfl; intro z n hz) | ((with_reducible apply wpList_quo); exact rfl; exact rfl; intro z n hz))
  go_ret
  refine ⟨_, _, _, rfl, rfl, ?_, ?_⟩
  all_goals (simp only [fvIff] at *; simp [*, scaleR, scaleI])

theorem rscale_any (a b c : Nat) (w : World) :
    Calls Try.prog 23 #[.complex .f64 a b, .float .f64 c] w fun e w' => ∃ re im n, e = .returned (.complex .f64 re im) ∧ w' = w.drewN n ∧ FV re (scaleR (cn a) (cn b) (cn c)) ∧ FV im (scaleI (cn a) (cn b) (cn c)) := by
  go_enter Try.func23, Try.ntmps23
  go_wp2_with (first | ((with_reducible apply wpList_add); exact rfl; exact rfl; intro z n hz) | ((with_reducible apply wpList_sub); exact rfl; exact rfl; intro z n hz) | ((with_reducible apply wpList_mul); exact rfl; exact rfl; intro z n hz) | ((with_reducible apply wpList_quo); exact rfl; exact rfl; intro z n hz))
  go_ret
  refine ⟨_, _, _, rfl, rfl, ?_, ?_⟩
  all_goals (simp only [fvIff] at *; simp [*, scaleR, scaleI])

theorem add_any (a b c d : Nat) (w : World) :
    Calls Try.prog 47 #[.complex .f64 a b, .complex .f64 c d] w fun e w' => ∃ re im n, e = .returned (.complex .f64 re im) ∧ w' = w.drewN n ∧ FV re (addR (cn a) (cn b) (cn c) (cn d)) ∧ FV im (addI (cn a) (cn b) (cn c) (cn d)) := by
  go_enter Try.func47, Try.ntmps47
  go_wp2_with (first | ((with_reducible apply wpList_add); exact rfl; exact rfl; intro z n hz) | ((with_reducible apply wpList_sub); exact rfl; exact rfl; intro z n hz) | ((with_reducible apply wpList_mul); exact rfl; exact rfl; intro z n hz) | ((with_reducible apply wpList_quo); exact rfl; exact rfl; intro z n hz))
  go_ret
  refine ⟨_, _, _, rfl, rfl, ?_, ?_⟩
  all_goals (simp only [fvIff] at *; simp [*, addR, addI])

theorem radd_any (a b c d : Nat) (w : World) :
    Calls Try.prog 62 #[.complex .f64 a b, .complex .f64 c d] w fun e w' => ∃ re im n, e = .returned (.complex .f64 re im) ∧ w' = w.drewN n ∧ FV re (addR (cn a) (cn b) (cn c) (cn d)) ∧ FV im (addI (cn a) (cn b) (cn c) (cn d)) := by
  go_enter Try.func62, Try.ntmps62
  go_wp2_with (first | ((with_reducible apply wpList_add); exact rfl; exact rfl; intro z n hz) | ((with_reducible apply wpList_sub); exact rfl; exact rfl; intro z n hz) | ((with_reducible apply wpList_mul); exact rfl; exact rfl; intro z n hz) | ((with_reducible apply wpList_quo); exact rfl; exact rfl; intro z n hz))
  go_ret
  refine ⟨_, _, _, rfl, rfl, ?_, ?_⟩
  all_goals (simp only [fvIff] at *; simp [*, addR, addI])

theorem sub_any (a b c d : Nat) (w : World) :
    Calls Try.prog 48 #[.complex .f64 a b, .complex .f64 c d] w fun e w' => ∃ re im n, e = .returned (.complex .f64 re im) ∧ w' = w.drewN n ∧ FV re (subR (cn a) (cn b) (cn c) (cn d)) ∧ FV im (subI (cn a) (cn b) (cn c) (cn d)) := by
  go_enter Try.func48, Try.ntmps48
  go_wp2_with (first | ((with_reducible apply wpList_add); exact rfl; exact rfl; intro z n hz) | ((with_reducible apply wpList_sub); exact rfl; exact rfl; intro z n hz) | ((with_reducible apply wpList_mul); exact rfl; exact rfl; intro z n hz) | ((with_reducible apply wpList_quo); exact rfl; exact rfl; intro z n hz))
  go_ret
  refine ⟨_, _, _, rfl, rfl, ?_, ?_⟩
  all_goals (simp only [fvIff] at *; simp [*, subR, subI])

theorem rsub_any (a b c d : Nat) (w : World) :
    Calls Try.prog 63 #[.complex .f64 a b, .complex .f64 c d] w fun e w' => ∃ re im n, e = .returned (.complex .f64 re im) ∧ w' = w.drewN n ∧ FV re (subR (cn a) (cn b) (cn c) (cn d)) ∧ FV im (subI (cn a) (cn b) (cn c) (cn d)) := by
  go_enter Try.func63, Try.ntmps63
  go_wp2_with (first | ((with_reducible apply wpList_add); exact rfl; exact rfl; intro z n hz) | ((with_reducible apply wpList_sub); exact rfl; exact rfl; intro z n hz) | ((with_reducible apply wpList_mul); exact rfl; exact rfl; intro z n hz) | ((with_reducible apply wpList_quo); exact rfl; exact rfl; intro z n hz))
  go_ret
  refine ⟨_, _, _, rfl, rfl, ?_, ?_⟩
  all_goals (simp only [fvIff] at *; simp [*, subR, subI])

theorem mul_any (a b c d : Nat) (w : World) :
    Calls Try.prog 28 #[.complex .f64 a b, .complex .f64 c d] w fun e w' => ∃ re im n, e = .returned (.complex .f64 re im) ∧ w' = w.drewN n ∧ FV re (mulR (cn a) (cn b) (cn c) (cn d)) ∧ FV im (mulI (cn a) (cn b) (cn c) (cn d)) := by
  go_enter Try.func28, Try.ntmps28
  go_wp2_with (first | ((with_reducible apply wpList_add); exact rfl; exact rfl; intro z n hz) | ((with_reducible apply wpList_sub); exact rfl; exact rfl; intro z n hz) | ((with_reducible apply wpList_mul); exact rfl; exact rfl; intro z n hz) | ((with_reducible apply wpList_quo); exact rfl; exact rfl; intro z n hz))
  go_ret
  refine ⟨_, _, _, rfl, rfl, ?_, ?_⟩
  all_goals (simp only [fvIff] at *; simp [*, mulR, mulI])

theorem rmul_any (a b c d : Nat) (w : World) :
    Calls Try.prog 38 #[.complex .f64 a b, .complex .f64 c d] w fun e w' => ∃ re im n, e = .returned (.complex .f64 re im) ∧ w' = w.drewN n ∧ FV re (mulR (cn a) (cn b) (cn c) (cn d)) ∧ FV im (mulI (cn a) (cn b) (cn c) (cn d)) := by
  go_enter Try.func38, Try.ntmps38
  go_wp2_with (first | ((with_reducible apply wpList_add); exact rfl; exact rfl; intro z n hz) | ((with_reducible apply wpList_sub); exact rfl; exact rfl; intro z n hz) | ((with_reducible apply wpList_mul); exact rfl; exact rfl; intro z n hz) | ((with_reducible apply wpList_quo); exact rfl; exact rfl; intro z n hz))
  go_ret
  refine ⟨_, _, _, rfl, rfl, ?_, ?_⟩
  all_goals (simp only [fvIff] at *; simp [*, mulR, mulI])

theorem sq_any (a b : Nat) (w : World) :
    Calls Try.prog 57 #[.complex .f64 a b] w fun e w' => ∃ re im n, e = .returned (.complex .f64 re im) ∧ w' = w.drewN n ∧ FV re (sqR (cn a) (cn b)) ∧ FV im (sqI (cn a) (cn b)) := by
  go_enter Try.func57, Try.ntmps57
  go_wp2_with (first | ((with_reducible apply wpList_add); exact rfl; exact rfl; intro z n hz) | ((with_reducible apply wpList_sub); exact rfl; exact rfl; intro z n hz) | ((with_reducible apply wpList_mul); exact rfl; exact rfl; intro z n hz) | ((with_reducible apply wpList_quo); exact rfl; exact rfl; intro z n hz))
  go_ret
  refine ⟨_, _, _, rfl, rfl, ?_, ?_⟩
  all_goals (simp only [fvIff] at *; simp [*, sqR, sqI])

theorem rsq_any (a b : Nat) (w : World) :
    Calls Try.prog 58 #[.complex .f64 a b] w fun e w' => ∃ re im n, e = .returned (.complex .f64 re im) ∧ w' = w.drewN n ∧ FV re (sqR (cn a) (cn b)) ∧ FV im (sqI (cn a) (cn b)) := by
  go_enter Try.func58, Try.ntmps58
  go_wp2_with (first | ((with_reducible apply wpList_add); exact rfl; exact rfl; intro z n hz) | ((with_reducible apply wpList_sub); exact rfl; exact rfl; intro z n hz) | ((with_reducible apply wpList_mul); exact rfl; exact rfl; intro z n hz) | ((with_reducible apply wpList_quo); exact rfl; exact rfl; intro z n hz))
  go_ret
  refine ⟨_, _, _, rfl, rfl, ?_, ?_⟩
  all_goals (simp only [fvIff] at *; simp [*, sqR, sqI])

end Go.Proofs.Ytoihdhmgjfoclaa
