/-
  The walks of Check and Of.
-/
import Derived.Test.YtfhkpkebiinglaaTimes
namespace Go.Proofs.Ytfhkpkebiinglaa
open Go.RowKit

theorem one_row (a : ByteArray) (w : World) : VRow (w.alloc (.cells #[.string a] 22)) (some ⟨w.heap.size, 0, none⟩) 1 ([a].map .string) := by
  refine ⟨Nat.le_refl _, by unfold maxLen; omega, fun i hi => ⟨w.heap.size, rfl, by simp, ?_⟩⟩
  rw [World.cell?_alloc_at _ _ _ _ rfl]
  match i, hi with
  | 0, _ => rfl

theorem Check_any (a : ByteArray) (w : World) (ha : a.size ≤ maxLen) :
    Calls Try.prog 46 #[.string a] w fun e w' => e = .returned (.int .i64 (if Ok a then 0 else 2)) ∧ Below w.heap.size w w' := by
  have HM := Lib.hid (may_any (some ⟨w.heap.size, 0, none⟩) 1 [a] _ (by simpa using ha) (one_row a w))
  have HT := Lib.hid (two_below w (.cells #[.string a] 22))
  have e1 : [a].length = 1 := rfl
  rw [e1] at HM
  by_cases hok : Ok a
  · have ed : decide (∀ s ∈ [a], Ok s) = true := by rw [decide_eq_true_eq]; simpa using hok
    rw [ed] at HM
    rw [if_pos hok]
    clear hok ed ha
    go_enter Try.func46, Try.ntmps46
    go_wp2_with (go_at_call 58; refine HM.out.mono ?_; rintro e w1 ⟨rfl, hw1⟩; have B1 := HT.out; rw [hw1] at B1)
    go_ret
    exact ⟨rfl, B1⟩
  · have ed : decide (∀ s ∈ [a], Ok s) = false := by rw [decide_eq_false_iff_not]; simpa using hok
    rw [ed] at HM
    rw [if_neg hok]
    clear hok ed ha
    go_enter Try.func46, Try.ntmps46
    go_wp2_with (go_at_call 58; refine HM.out.mono ?_; rintro e w1 ⟨rfl, hw1⟩; have B1 := HT.out; rw [hw1] at B1)
    go_ret
    exact ⟨rfl, B1⟩

theorem limb_row (x y : Nat) (w : World) : RowAt (w.alloc (.cells #[.int .u32 (x : Int), .int .u32 (y : Int)] 91)) .u32 (some ⟨w.heap.size, 0, none⟩) 2 [x, y] := by
  refine ⟨Nat.le_refl _, by unfold maxLen; omega, (fun h => by cases h), fun i hi => ⟨w.heap.size, rfl, by simp, ?_⟩⟩
  rw [World.cell?_alloc_at _ _ _ _ rfl]
  match i, hi with
  | 0, _ => rfl
  | 1, _ => rfl

set_option maxRecDepth 20000 in
theorem Of_any (n : Nat) (hn : n < 18446744073709551616) (w : World) :
    Calls Try.prog 47 #[.int .u64 (n : Int)] w fun e w' => e = .returned (.string (enc n)) ∧ Below w.heap.size w w' := by
  have hx : n % 4294967296 < 4294967296 := Nat.mod_lt _ (by omega)
  have hy : n / 4294967296 < 4294967296 := by omega
  have hv : dval 4294967296 [n % 4294967296, n / 4294967296] = n := by
    simp only [dval, Nat.mul_zero, Nat.add_zero]
    exact Nat.mod_add_div n 4294967296
  have hl : (digs 256 n).length ≤ 16384 := Nat.le_trans ((digs_len (by omega) n 8).2 (by omega)) (by omega)
  have HS := Lib.hid (shut_any (some ⟨w.heap.size, 0, none⟩) 2 2 [n % 4294967296, n / 4294967296] rfl (by intro d hd; simp at hd; rcases hd with rfl | rfl <;> assumption) (by omega) _ (limb_row _ _ w) (by rw [hv]; exact hl))
  rw [hv] at HS
  have HT := Lib.hid (two_below w (.cells #[.int .u32 ((n % 4294967296 : Nat) : Int), .int .u32 ((n / 4294967296 : Nat) : Int)] 91))
  clear hv hl
  go_enter Try.func47, Try.ntmps47
  go_wp2_with (go_at_call 61; refine HS.out.mono ?_; rintro e w1 ⟨rfl, B1⟩)
  go_ret
  exact ⟨rfl, HT.out.on B1⟩
end Go.Proofs.Ytfhkpkebiinglaa
