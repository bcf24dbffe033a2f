/-
  Fractions compared.
-/
import Derived.Test.YtacpakmglmfgnaaAc
import Derived.Laws.StructEq
namespace Go.Proofs.Ytacpakmglmfgnaa
open Go.RowKit

theorem bb_eq (s t : ByteArray) : (s == t) = decide (s = t) := by
  have h : (s == t) = (s.data == t.data) := rfl
  rw [h]
  by_cases e : s = t
  · subst e; simp
  · rw [decide_eq_false e, beq_eq_false_iff_ne]
    exact fun h2 => e (ByteArray.ext h2)
theorem run_eq_ratio (s t s' t' : ByteArray) (w : World) : (Op.equalIn 10000 24 (.agg #[.bool false, .string s, .string t]) (.agg #[.bool false, .string s', .string t'])).run Try.prog w = .ok (decide (s = s' ∧ t = t')) w := by
  have h : ∀ d : Nat, (Op.equalIn (d + 2) 24 (.agg #[.bool false, .string s, .string t]) (.agg #[.bool false, .string s', .string t'])).run Try.prog w = .ok (decide (s = s' ∧ t = t')) w := fun d => by
    simp [Op.equalIn, run_underlying Try.underlying24, go_sem]
    rw [bb_eq, bb_eq]
    by_cases h1 : s = s' <;> by_cases h2 : t = t' <;> simp [h1, h2]
  exact h 9998
theorem enc_inj {a b : Nat} (h : enc a = enc b) : a = b := by rw [← bval_enc a, h, bval_enc]
end Go.Proofs.Ytacpakmglmfgnaa
