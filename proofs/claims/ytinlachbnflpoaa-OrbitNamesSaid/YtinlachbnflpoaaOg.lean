/-
  The walk of Run at the example.
-/
import Derived.Test.YtinlachbnflpoaaOf
namespace Go.Proofs.Ytinlachbnflpoaa
open Go.RowKit

theorem polyOk_P : PolyOk (re [4607182418800017408]) := by
  refine ⟨by decide, by decide, fun i h => ?_, fun h => (by decide : (eqF 4607182418800017408 0 && eqF 0 0) = false)⟩
  match i, h with
  | 0, _ => exact ⟨fi_fw 1 (by omega), fi_zero⟩
theorem polyOk_Q : PolyOk (re [0, 0, 4607182418800017408]) := by
  refine ⟨by decide, by decide, fun i h => ?_, fun h => (by decide : (eqF 4607182418800017408 0 && eqF 0 0) = false)⟩
  match i, h with
  | 0, _ => exact ⟨fi_zero, fi_zero⟩
  | 1, _ => exact ⟨fi_zero, fi_zero⟩
  | 2, _ => exact ⟨fi_fw 1 (by omega), fi_zero⟩
theorem polyOk_L : PolyOk (re [4607182418800017408, 4607182418800017408]) := by
  refine ⟨by decide, by decide, fun i h => ?_, fun h => (by decide : (eqF 4607182418800017408 0 && eqF 0 0) = false)⟩
  match i, h with
  | 0, _ => exact ⟨fi_fw 1 (by omega), fi_zero⟩
  | 1, _ => exact ⟨fi_fw 1 (by omega), fi_zero⟩
theorem horner_P (z : Nat) : Horner [4607182418800017408] z (fun _ => 4607182418800017408) := by
  refine ⟨by decide, fun h => rfl, fun i h h2 => ?_⟩
  simp at h2
theorem horner_Q : Horner [0, 0, 4607182418800017408] 0 (fun i => if i = 2 then 4607182418800017408 else 0) := by
  refine ⟨by decide, fun h => rfl, fun i h h2 => ?_⟩
  match i, h2 with
  | 0, _ => exact ⟨0, fw_zero.1, fw_zero.2.1, fw_zero.2.2⟩
  | 1, _ => exact ⟨0, (fw_mul ⟨0, by omega⟩).1, (fw_mul ⟨0, by omega⟩).2, fw_zero.2.2⟩
theorem horner_L (k : Nat) (hk : k ≤ 4) : Horner [4607182418800017408, 4607182418800017408] (fw k) (fun i => if i = 1 then 4607182418800017408 else fw (k + 1)) := by
  refine ⟨by decide, fun h => rfl, fun i h h2 => ?_⟩
  match i, h2 with
  | 0, _ => exact ⟨fw k, (fw_mul ⟨k, by omega⟩).1, (fw_mul ⟨k, by omega⟩).2, fw_add ⟨k, by omega⟩⟩
/-- The first example's map at 0, and at infinity. -/
theorem ex1_at0 {b1 c1 b2 c2 : Nat} (w : World) (h : MapOk w b1 c1 (re [4607182418800017408]) b2 c2 (re [0, 0, 4607182418800017408])) :
    Calls Try.prog 9 #[.agg #[.slice (some ⟨b1, 0, none⟩) 1 c1, .slice (some ⟨b2, 0, none⟩) 3 c2], .agg #[.complex .f64 0 0, .bool false]] w fun e w' => e = .returned (.tuple #[.agg #[.complex .f64 0 0, .bool true], .bool true]) ∧ Below w.heap.size w w' := by
  have h1 := at_far w h fi_zero (horner_P 0) horner_Q (by decide) (by simp)
  exact h1
theorem ex1_inf {b1 c1 b2 c2 : Nat} (w : World) (h : MapOk w b1 c1 (re [4607182418800017408]) b2 c2 (re [0, 0, 4607182418800017408])) :
    Calls Try.prog 9 #[.agg #[.slice (some ⟨b1, 0, none⟩) 1 c1, .slice (some ⟨b2, 0, none⟩) 3 c2], .agg #[.complex .f64 0 0, .bool true]] w fun e w' => e = .returned (.tuple #[.agg #[.complex .f64 0 0, .bool false], .bool true]) ∧ Below w.heap.size w w' := by
  have h1 := at_inf w h (by decide)
  exact h1
/-- The second example's map at k. -/
theorem ex2_at {b1 c1 b2 c2 : Nat} (k : Nat) (hk : k ≤ 4) (w : World) (h : MapOk w b1 c1 (re [4607182418800017408, 4607182418800017408]) b2 c2 (re [4607182418800017408])) :
    Calls Try.prog 9 #[.agg #[.slice (some ⟨b1, 0, none⟩) 2 c1, .slice (some ⟨b2, 0, none⟩) 1 c2], .agg #[.complex .f64 (fw k) 0, .bool false]] w fun e w' => e = .returned (.tuple #[.agg #[.complex .f64 (fw (k + 1)) 0, .bool false], .bool true]) ∧ Below w.heap.size w w' := by
  have h1 := at_num w h (fi_fw k (by omega)) (horner_L k hk) (horner_P (fw k)) (k + 1) (by omega) (by omega) (by simp) (by simp)
  exact h1
end Go.Proofs.Ytinlachbnflpoaa
