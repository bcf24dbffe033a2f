/-
  Ldexp at two constants.
-/
import Derived.Test.YtoihdhmgjfoclaaWd
namespace Go.Proofs.Ytoihdhmgjfoclaa
open Go.RowKit
theorem isInf0_any (x : Nat) (hx : x < 18446744073709551616) (w : World) :
    Calls Try.prog 66 #[.float .f64 x, .int .i64 0] w fun e w' => e = .returned (.bool (infB x)) ∧ w = w' := by
  go_enter Try.func66, Try.ntmps66
  go_wp2_with (first | (go_at_call 71; refine (abs_any _ (by omega) _).mono ?_; rintro e w' ⟨rfl, rfl⟩))
  go_ret
  exact ⟨ret_b (ltF_max_abs x), rfl⟩
theorem isInf1_any (x : Nat) (hx : x < 18446744073709551616) (w : World) :
    Calls Try.prog 66 #[.float .f64 x, .int .i64 1] w fun e w' => e = .returned (.bool (decide (x = 9218868437227405312))) ∧ w = w' := by
  go_enter Try.func66, Try.ntmps66
  go_wp2_with (first | (go_at_call 71; refine (abs_any _ (by omega) _).mono ?_; rintro e w' ⟨rfl, rfl⟩))
  go_ret
  exact ⟨ret_b (ltF_max x hx), rfl⟩
theorem isNaN_any (x : Nat) (w : World) :
    Calls Try.prog 99 #[.float .f64 x] w fun e w' => e = .returned (.bool (isN x)) ∧ w = w' := by
  go_enter Try.func99, Try.ntmps99
  go_wp2
  go_ret
  exact ⟨ret_b (by simp), rfl⟩
theorem norm_one (w : World) : Calls Try.prog 100 #[.float .f64 4607182418800017408] w fun e w' => e = .returned (.tuple #[.float .f64 4607182418800017408, .int .i64 0]) ∧ w = w' := by
  have h1 : ltF 4607182418800017408 4503599627370496 = false := by decide
  go_enter Try.func100, Try.ntmps100
  go_wp2_with (first | (go_at_call 71; refine (abs_any _ (by omega) _).mono ?_; rintro e w' ⟨rfl, rfl⟩))
  go_ret2
  exact ⟨rfl, rfl⟩
theorem and_1023 : bits .and .i64 1023 2047 = 1023 := by decide +kernel
theorem andNot_one : bits .andNot .u64 4607182418800017408 9218868437227405312 = 0 := by decide +kernel
theorem or_lo : bits .or .u64 0 103582791429521408 = 103582791429521408 := by decide +kernel
theorem or_hi : bits .or .u64 0 9110782046170513408 = 9110782046170513408 := by decide +kernel
theorem mul_lo : fo .mul (cn 4607182418800017408) (cn 103582791429521408) = some 103582791429521408 := by kernel_rfl
theorem mul_hi : fo .mul (cn 4607182418800017408) (cn 9110782046170513408) = some 9110782046170513408 := by kernel_rfl
theorem ldexp_lo (w : World) : Calls Try.prog 94 #[.float .f64 4607182418800017408, .int .i64 (-1000)] w fun e w' => ∃ n, e = .returned (.float .f64 103582791429521408) ∧ w' = w.drewN n := by
  have g1 : isN 4607182418800017408 = false := by decide
  have g2 : eqF 4607182418800017408 0 = false := by decide
  have g3 : ltF 9218868437227405311 4607182418800017408 = false := by decide
  have g4 : ltF 4607182418800017408 18442240474082181119 = false := by decide
  have g5 := and_1023
  have g6 := andNot_one
  have g7 := or_lo
  go_enter Try.func94, Try.ntmps94
  go_wp2_with (first | (go_at_call 66; refine (isInf0_any _ (by omega) _).mono ?_; rintro e w' ⟨rfl, rfl⟩; rw [show infB 4607182418800017408 = false by decide]) | (go_at_call 99; refine (isNaN_any _ _).mono ?_; rintro e w' ⟨rfl, rfl⟩; rw [g1]) | (go_at_call 100; refine (norm_one _).mono ?_; rintro e w' ⟨rfl, rfl⟩) | ((with_reducible apply wpList_mul); exact rfl; exact rfl; intro z n hz; obtain rfl := fv_eq hz mul_lo; clear hz))
  go_ret
  exact ⟨_, rfl, rfl⟩
theorem ldexp_hi (w : World) : Calls Try.prog 94 #[.float .f64 4607182418800017408, .int .i64 1000] w fun e w' => ∃ n, e = .returned (.float .f64 9110782046170513408) ∧ w' = w.drewN n := by
  have g1 : isN 4607182418800017408 = false := by decide
  have g2 : eqF 4607182418800017408 0 = false := by decide
  have g3 : ltF 9218868437227405311 4607182418800017408 = false := by decide
  have g4 : ltF 4607182418800017408 18442240474082181119 = false := by decide
  have g5 := and_1023
  have g6 := andNot_one
  have g7 := or_hi
  go_enter Try.func94, Try.ntmps94
  go_wp2_with (first | (go_at_call 66; refine (isInf0_any _ (by omega) _).mono ?_; rintro e w' ⟨rfl, rfl⟩; rw [show infB 4607182418800017408 = false by decide]) | (go_at_call 99; refine (isNaN_any _ _).mono ?_; rintro e w' ⟨rfl, rfl⟩; rw [g1]) | (go_at_call 100; refine (norm_one _).mono ?_; rintro e w' ⟨rfl, rfl⟩) | ((with_reducible apply wpList_mul); exact rfl; exact rfl; intro z n hz; obtain rfl := fv_eq hz mul_hi; clear hz))
  go_ret
  exact ⟨_, rfl, rfl⟩
theorem Ldexp_lo (w : World) : Calls Try.prog 72 #[.float .f64 4607182418800017408, .int .i64 (-1000)] w fun e w' => ∃ n, e = .returned (.float .f64 103582791429521408) ∧ w' = w.drewN n := by
  go_enter Try.func72, Try.ntmps72
  go_wp2_with (first | (go_at_call 94; refine (ldexp_lo _).mono ?_; rintro e w' ⟨n, rfl, rfl⟩))
  go_ret
  exact ⟨_, rfl, rfl⟩
theorem Ldexp_hi (w : World) : Calls Try.prog 72 #[.float .f64 4607182418800017408, .int .i64 1000] w fun e w' => ∃ n, e = .returned (.float .f64 9110782046170513408) ∧ w' = w.drewN n := by
  go_enter Try.func72, Try.ntmps72
  go_wp2_with (first | (go_at_call 94; refine (ldexp_hi _).mono ?_; rintro e w' ⟨n, rfl, rfl⟩))
  go_ret
  exact ⟨_, rfl, rfl⟩
end Go.Proofs.Ytoihdhmgjfoclaa
