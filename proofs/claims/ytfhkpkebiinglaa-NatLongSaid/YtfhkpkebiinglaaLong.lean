/-
  The numbers at the bound's edge.
-/
import Derived.Test.YtfhkpkebiinglaaOne
namespace Go.Proofs.Ytfhkpkebiinglaa
open Go.RowKit

theorem dval_full (k : Nat) : dval 256 (List.replicate k 255) + 1 = 256 ^ k := by
  induction k with
  | zero => rfl
  | succ k ih =>
    rw [List.replicate_succ, dval, Nat.pow_succ]
    omega
/-- k bytes, all 255. -/
def full (k : Nat) : ByteArray := strOfNums ((List.replicate k 255).map fun d : Nat => (d : Int))
theorem bytesR_full (k : Nat) : bytesR (full k) = List.replicate k 255 := by
  unfold full bytesR strOfNums
  simp
theorem full_size (k : Nat) : (full k).size = k := by
  rw [← bytesR_len, bytesR_full, List.length_replicate]
theorem full_val (k : Nat) : bval (full k) + 1 = 256 ^ k := by
  unfold bval
  rw [bytesR_full]; exact dval_full k
theorem full_ok (k : Nat) (hk : k ≤ 16384) : Ok (full k) := by
  have h : Sm (bval (full k)) := Sm.of_lt (k := k) (by have := full_val k; omega) hk
  have h2 : digs 256 (bval (full k)) = List.replicate k 255 := by
    have := digs_dval (B := 256) (by omega) (List.replicate k 255) (fun d hd => by rw [List.eq_of_mem_replicate hd]; omega) (by
      intro e
      have := List.eq_of_mem_replicate (List.mem_of_getLast? e)
      omega)
    unfold bval
    rw [bytesR_full]; exact this
  have h3 : enc (bval (full k)) = full k := bytes_ext (by rw [bytesR_enc, h2, bytesR_full])
  rw [← h3]
  exact h.ok
theorem sm_iff {N : Nat} (K : Nat) (hK : K = 16384) : Sm N ↔ N < 256 ^ K := by
  unfold Sm
  rw [← hK]
  exact digs_len (by omega) _ _
theorem full_blen (k : Nat) : blen (bval (full k)) = 8 * k := by
  have h := full_val k
  rw [← two_pow_8] at h
  have h1 : blen (bval (full k)) ≤ 8 * k := (blen_le _ _).2 (by omega)
  by_cases hk : k = 0
  · subst hk; omega
  · have h2 : ¬ blen (bval (full k)) ≤ 8 * k - 1 := fun h' => by
      have h3 := (blen_le _ _).1 h'
      have e : (2 : Nat) ^ (8 * k) = 2 ^ (8 * k - 1) * 2 := by rw [← Nat.pow_succ]; congr 1; omega
      have hp := Nat.two_pow_pos (8 * k - 1)
      have h4 : 1 < (2 : Nat) ^ (8 * k - 1) := Nat.one_lt_two_pow (by omega)
      rw [e] at h
      omega
    omega
theorem shift_one (n : Nat) (z : Int) (hz : z = (n : Int)) (hn : n ≤ 131072) : Ans 28 #[.string ⟨#[1]⟩, .int .i64 z] (endN (2 ^ n)) := fun w => by
  have h := Shift_any ⟨#[1]⟩ z ⟨by omega, by omega⟩ w (by decide)
  have hv : bval ⟨#[1]⟩ = 1 := by rw [← enc_1, bval_enc]
  rw [if_pos (by decide), hv] at h
  unfold shN at h
  rw [if_neg (by omega), if_neg (by omega), if_neg (by omega), Nat.one_mul, hz, Int.toNat_natCast] at h
  rw [← hz] at h
  exact h
theorem enc_2 : enc 2 = ⟨#[2]⟩ := enc_lit [2] (by decide) (by decide) (by decide) rfl
theorem pow_two (n : Nat) (z : Int) (hz : z = (n : Int)) : Ans 55 #[.string ⟨#[2]⟩, .int .i64 z] (endN (2 ^ n)) := fun w => by
  have h := Pow_any ⟨#[2]⟩ z w (by decide)
  have hv : bval ⟨#[2]⟩ = 2 := by rw [← enc_2, bval_enc]
  rw [if_pos (by decide), hv] at h
  unfold powN at h
  rw [if_neg (by omega), hz, Int.toNat_natCast] at h
  rw [← hz] at h
  exact h
theorem sm_two (n : Nat) (hn : n ≤ 131071) : Sm (2 ^ n) := by unfold Sm; rw [two_len]; omega
theorem not_sm_two (n : Nat) (hn : 131072 ≤ n) : ¬ Sm (2 ^ n) := by unfold Sm; rw [two_len]; omega

/-- What the statement's calls answer, at the number of all ones and the powers of two. -/
structure LongCalls (A X : ByteArray) : Prop where
  add : Ans 32 #[.string A, .string ⟨#[1]⟩] (.tuple #[.string ⟨#[]⟩, .int .i64 4])
  sum : ∀ w : World, Calls Try.prog 34 #[.slice (some ⟨w.heap.size, 0, none⟩) 3 3] (w.alloc (.cells #[.string A, .string ⟨#[]⟩, .string A] 22)) fun e w' => e = .returned (.tuple #[.string ⟨#[]⟩, .int .i64 4]) ∧ Below w.heap.size w w'
  sh1 : Ans 28 #[.string ⟨#[1]⟩, .int .i64 131071] (.tuple #[.string X, .int .i64 0])
  sh2 : Ans 28 #[.string ⟨#[1]⟩, .int .i64 131072] (.tuple #[.string ⟨#[]⟩, .int .i64 4])
  pw1 : Ans 55 #[.string ⟨#[2]⟩, .int .i64 131071] (.tuple #[.string X, .int .i64 0])
  pw2 : Ans 55 #[.string ⟨#[2]⟩, .int .i64 131072] (.tuple #[.string ⟨#[]⟩, .int .i64 4])
  mu1 : Ans 20 #[.string X, .string ⟨#[1]⟩] (.tuple #[.string X, .int .i64 0])
  mu2 : Ans 20 #[.string X, .string ⟨#[2]⟩] (.tuple #[.string ⟨#[]⟩, .int .i64 4])
  len : Ans 49 #[.string A] (.tuple #[.int .i64 131072, .int .i64 0])
  ck1 : Ans 46 #[.string A] (.int .i64 0)
  ck2 : ∀ s : ByteArray, s.size = A.size + 1 → Ans 46 #[.string s] (.int .i64 2)
theorem long_calls (K n : Nat) (hK : K = 16384) (hn : n = 131071) : LongCalls (full K) (enc (2 ^ n)) := by
  have hok := full_ok K (by omega)
  have hsz : (full K).size ≤ maxLen := by rw [full_size]; unfold maxLen; omega
  have hv := full_val K
  have hs := sm_two n (by omega)
  have h1 : Sm 1 := sm_one
  have h2 : Sm 2 := Sm.of_lt (k := 1) (by omega) (by omega)
  have hp : 2 ≤ 256 ^ K := by
    have : 256 ^ 1 ≤ 256 ^ K := Nat.pow_le_pow_right (by omega) (by omega)
    omega
  have v1 : bval ⟨#[1]⟩ = 1 := by rw [← enc_1, bval_enc]
  have v0 : bval ⟨#[]⟩ = 0 := rfl
  refine ⟨fun w => ?_, fun w => ?_, ?_, ?_, ?_, ?_, ?_, ?_, fun w => ?_, fun w => ?_, fun s hs w => ?_⟩
  · have h := Add_any (full K) ⟨#[1]⟩ w hsz (by decide)
    rw [if_pos ⟨hok, by decide⟩, v1, hv, not_sm (fun h => by rw [sm_iff K hK] at h; omega)] at h
    exact h
  · have HS : ∀ s ∈ [full K, ⟨#[]⟩, full K], s.size ≤ maxLen := by intro s hs; simp at hs; rcases hs with rfl | rfl | rfl; exact hsz; decide; exact hsz
    have HO : ∀ s ∈ [full K, ⟨#[]⟩, full K], Ok s := by intro s hs; simp at hs; rcases hs with rfl | rfl | rfl; exact hok; decide; exact hok
    refine (Sum_any (some ⟨w.heap.size, 0, none⟩) 3 3 [full K, ⟨#[]⟩, full K] rfl (by omega) _ HS (three_row _ _ _ w)).mono ?_
    rintro e w' ⟨rfl, hb⟩
    refine ⟨?_, (two_below w _).on hb⟩
    rw [if_pos HO]
    simp only [sumv, v0]
    rw [not_sm (fun h => by rw [sm_iff K hK] at h; omega)]
  · have h := shift_one n 131071 (by omega) (by omega); rw [hs.endN] at h; exact h
  · have h := shift_one (n + 1) 131072 (by omega) (by omega); rw [not_sm (not_sm_two _ (by omega))] at h; exact h
  · have h := pow_two n 131071 (by omega); rw [hs.endN] at h; exact h
  · have h := pow_two (n + 1) 131072 (by omega); rw [not_sm (not_sm_two _ (by omega))] at h; exact h
  · have h := mul_ans hs h1; rw [Nat.mul_one, hs.endN, enc_1] at h; exact h
  · have h := mul_ans hs h2; rw [← Nat.pow_succ, not_sm (not_sm_two _ (by omega)), enc_2] at h; exact h
  · have h := Len_any (full K) w hsz
    rw [if_pos hok, full_blen] at h
    have e : ((8 * K : Nat) : Int) = 131072 := by omega
    rw [e] at h
    exact h
  · have h := Check_any (full K) w hsz
    rw [if_pos hok] at h
    exact h
  · have h := Check_any s w (by rw [hs, full_size]; unfold maxLen; omega)
    rw [if_neg (fun hk => by have := hk.1; rw [hs, full_size] at this; omega)] at h
    exact h
end Go.Proofs.Ytfhkpkebiinglaa
