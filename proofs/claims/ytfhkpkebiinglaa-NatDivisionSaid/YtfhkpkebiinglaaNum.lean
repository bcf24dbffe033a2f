/-
  The program's functions at numbers that are written as bytes.
-/
import Derived.Test.YtfhkpkebiinglaaSumx
namespace Go.Proofs.Ytfhkpkebiinglaa
open Go.RowKit

/-- A number that fits. -/
def Sm (N : Nat) : Prop := (digs 256 N).length ≤ 16384
theorem Sm.of_lt {N k : Nat} (h : N < 256 ^ k) (hk : k ≤ 16384) : Sm N := Nat.le_trans ((digs_len (by omega) _ _).2 h) hk
theorem Sm.ok {N : Nat} (h : Sm N) : Ok (enc N) := ok_enc N h
theorem Sm.endN {N : Nat} (h : Sm N) : endN N = .tuple #[.string (enc N), .int .i64 0] := by
  unfold Sm at h
  unfold Ytfhkpkebiinglaa.endN endS endE
  rw [if_neg (by omega), if_neg (by omega)]
theorem Sm.size {N : Nat} (h : Sm N) : (enc N).size ≤ maxLen := by
  rw [enc_size]; unfold Sm at h; unfold maxLen; omega
theorem Sm.of_ok {a : ByteArray} (h : Ok a) : Sm (bval a) := by unfold Sm; rw [ok_len a h]; exact h.1
theorem digs_mono {M N : Nat} (hm : M ≤ N) : (digs 256 M).length ≤ (digs 256 N).length :=
  (digs_len (by omega) M _).2 (Nat.lt_of_le_of_lt hm ((digs_len (by omega) N _).1 (Nat.le_refl _)))
theorem Sm.le {M N : Nat} (h : Sm N) (hm : M ≤ N) : Sm M := Nat.le_trans (digs_mono hm) h

/-- A call that answers v; of old memory nothing has turned. -/
def Ans (f : Nat) (args : Array Value) (v : Value) : Prop := ∀ w : World, Calls Try.prog f args w fun e w' => e = .returned v ∧ Below w.heap.size w w'

theorem Ans.call {f : Nat} {args : Array Value} {v : Value} (h : Ans f args v) (w : World) : Calls Try.prog f args w fun e w' => e = .returned v ∧ Below w.heap.size w w' := h w
theorem add_e {A B : Nat} (ha : Sm A) (hb : Sm B) (h : Sm (A + B)) : Ans 32 #[.string (enc A), .string (enc B)] (.tuple #[.string (enc (A + B)), .int .i64 0]) := fun w => by
  have := Add_any (enc A) (enc B) w ha.size hb.size
  rw [if_pos ⟨ha.ok, hb.ok⟩, bval_enc, bval_enc, h.endN] at this
  exact this
theorem sub_e {A B : Nat} (ha : Sm A) (hb : Sm B) (h : B ≤ A) : Ans 33 #[.string (enc A), .string (enc B)] (.tuple #[.string (enc (A - B)), .int .i64 0]) := fun w => by
  have := Sub_any (enc A) (enc B) w ha.size hb.size
  rw [if_pos ⟨ha.ok, hb.ok⟩, bval_enc, bval_enc] at this
  unfold subN at this
  rw [if_neg (by omega), (ha.le (Nat.sub_le _ _)).endN] at this
  exact this
theorem mul_e {A B : Nat} (ha : Sm A) (hb : Sm B) (h : Sm (A * B)) : Ans 20 #[.string (enc A), .string (enc B)] (.tuple #[.string (enc (A * B)), .int .i64 0]) := fun w => by
  have := Mul_any (enc A) (enc B) w ha.size hb.size
  rw [if_pos ⟨ha.ok, hb.ok⟩, bval_enc, bval_enc, h.endN] at this
  exact this
theorem three_row (a b c : ByteArray) (w : World) : VRow (w.alloc (.cells #[.string a, .string b, .string c] 22)) (some ⟨w.heap.size, 0, none⟩) 3 ([a, b, c].map .string) := by
  refine ⟨Nat.le_refl _, by unfold maxLen; omega, fun i hi => ⟨w.heap.size, rfl, by simp, ?_⟩⟩
  rw [World.cell?_alloc_at _ _ _ _ rfl]
  match i, hi with
  | 0, _ => rfl
  | 1, _ => rfl
  | 2, _ => rfl
theorem refused_three (a b c : ByteArray) (w : World) (ha : a.size ≤ maxLen) (hb : b.size ≤ maxLen) (hc : c.size ≤ maxLen) (t : Bool) (ht : t = !decide (Ok a ∧ Ok b ∧ Ok c)) :
    Calls Try.prog 21 #[.slice (some ⟨w.heap.size, 0, none⟩) 3 3] (w.alloc (.cells #[.string a, .string b, .string c] 22)) fun e w' => e = .returned (.bool t) ∧ Below w.heap.size w w' := by
  have HS : ∀ s ∈ [a, b, c], s.size ≤ maxLen := by intro s hs; simp at hs; rcases hs with rfl | rfl | rfl <;> assumption
  refine (refused_any (some ⟨w.heap.size, 0, none⟩) 3 [a, b, c] _ HS (three_row a b c w)).mono ?_
  rintro e w' ⟨rfl, rfl⟩
  refine ⟨?_, two_below w _⟩
  rw [ht]
  congr 3
  simp
theorem sum_e {A B C : Nat} (ha : Sm A) (hb : Sm B) (hc : Sm C) (h : Sm (A + (B + C))) (w : World) :
    Calls Try.prog 34 #[.slice (some ⟨w.heap.size, 0, none⟩) 3 3] (w.alloc (.cells #[.string (enc A), .string (enc B), .string (enc C)] 22)) fun e w' => e = .returned (.tuple #[.string (enc (A + (B + C))), .int .i64 0]) ∧ Below w.heap.size w w' := by
  have HS : ∀ s ∈ [enc A, enc B, enc C], s.size ≤ maxLen := by intro s hs; simp at hs; rcases hs with rfl | rfl | rfl; exact ha.size; exact hb.size; exact hc.size
  have HO : ∀ s ∈ [enc A, enc B, enc C], Ok s := by intro s hs; simp at hs; rcases hs with rfl | rfl | rfl; exact ha.ok; exact hb.ok; exact hc.ok
  refine (Sum_any (some ⟨w.heap.size, 0, none⟩) 3 3 [enc A, enc B, enc C] rfl (by omega) _ HS (three_row _ _ _ w)).mono ?_
  rintro e w' ⟨rfl, hb⟩
  refine ⟨?_, (two_below w _).on hb⟩
  rw [if_pos HO]
  simp only [sumv, bval_enc, Nat.add_zero]
  rw [h.endN]
end Go.Proofs.Ytfhkpkebiinglaa
