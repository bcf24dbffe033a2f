/-
  Powers: the plain law.
-/
import Derived.Test.YtfhkpkebiinglaaRsh
namespace Go.Proofs.Ytfhkpkebiinglaa
open Go.RowKit

theorem pow_long {x n : Nat} (hx : 2 ≤ x) (hn : 131072 ≤ n) : ¬ Sm (x ^ n) := fun h => by
  obtain ⟨K, hK⟩ : ∃ K, K = 16384 := ⟨_, rfl⟩
  unfold Sm at h
  rw [← hK] at h
  have h1 := (digs_len (B := 256) (by omega) _ _).1 h
  have h2 : (2 : Nat) ^ (8 * K) ≤ 2 ^ n := Nat.pow_le_pow_right (by omega) (by omega)
  rw [two_pow_8] at h2
  have h3 : 2 ^ n ≤ x ^ n := Nat.pow_le_pow_left hx n
  omega
theorem not_sm {N : Nat} (h : ¬ Sm N) : endN N = .tuple #[.string ⟨#[]⟩, .int .i64 4] := by
  unfold Sm at h
  unfold endN endS endE
  rw [if_pos (by omega), if_pos (by omega)]
theorem sm_one : Sm 1 := Sm.of_lt (k := 1) (by omega) (by omega)
/-- One step of the squaring. -/
theorem pow_step (x n r : Nat) : x ^ (n / 2 ^ r) = (if n / 2 ^ r % 2 = 1 then x ^ (n / 2 ^ (r + 1)) * x ^ (n / 2 ^ (r + 1)) * x else x ^ (n / 2 ^ (r + 1)) * x ^ (n / 2 ^ (r + 1))) := by
  have e : n / 2 ^ (r + 1) = n / 2 ^ r / 2 := by rw [Nat.pow_succ, ← Nat.div_div_eq_div_mul]
  rw [e]
  generalize n / 2 ^ r = m
  split
  · rename_i h
    rw [← Nat.pow_add, ← Nat.pow_succ]; congr 1; omega
  · rw [← Nat.pow_add]; congr 1; omega
theorem pow_mid {x n e : Nat} (hx : 1 ≤ x) (he : e ≤ n) (h : ¬ Sm (x ^ e)) : ¬ Sm (x ^ n) := fun h' => h (h'.le (Nat.pow_le_pow_right hx he))
theorem pow_sq (x n r : Nat) : x ^ (n / 2 ^ (r + 1)) * x ^ (n / 2 ^ (r + 1)) = x ^ (2 * (n / 2 ^ (r + 1))) := by rw [← Nat.pow_add]; congr 1; omega
theorem pow_sq_le (n r : Nat) : 2 * (n / 2 ^ (r + 1)) ≤ n := by
  have h1 : n / 2 ^ (r + 1) ≤ n / 2 := by rw [Nat.pow_succ', ← Nat.div_div_eq_div_mul]; exact Nat.div_le_self _ _
  omega
theorem and_one (t : Nat) (ht : t < 9223372036854775808) : bits .and .i64 (t : Int) 1 = ((t % 2 : Nat) : Int) := by
  have key : bits .and .i64 (t : Int) 1 = IntKind.i64.wrap ((BitVec.ofNat 64 t &&& BitVec.ofNat 64 1).toNat : Int) := by
    rw [← BitVec.ofInt_natCast]; rfl
  rw [key, IntKind.wrap_i64, BitVec.toNat_and, BitVec.toNat_ofNat, BitVec.toNat_ofNat, Nat.mod_eq_of_lt (a := t) (by omega)]
  have : t &&& 1 % 2 ^ 64 = t % 2 := Nat.and_one_is_mod t
  rw [this]; omega
theorem mul_ans {Y Z : Nat} (hy : Sm Y) (hz : Sm Z) : Ans 20 #[.string (enc Y), .string (enc Z)] (endN (Y * Z)) := fun w => by
  have := Mul_any (enc Y) (enc Z) w hy.size hz.size
  rw [if_pos ⟨hy.ok, hz.ok⟩, bval_enc, bval_enc] at this
  exact this
theorem rmul_ans {Y Z : Nat} (hy : Sm Y) (hz : Sm Z) : Ans 22 #[.string (enc Y), .string (enc Z)] (endN (Y * Z)) := fun w => by
  have := rMul_any (enc Y) (enc Z) hy.ok hz.ok w
  rw [bval_enc, bval_enc] at this
  exact this
end Go.Proofs.Ytfhkpkebiinglaa
