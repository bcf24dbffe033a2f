/-
  The walk of TopAngles.
-/
import Derived.Test.YtacpakmglmfgnaaAd
namespace Go.Proofs.Ytacpakmglmfgnaa
open Go.RowKit Go.Shelf
attribute [local go_sem] Oper.semAt_some

/-- TopAngles's boxes: the denominator, the base, the answer. -/
structure TB (g : Nat) (den d : Int) (w : World) : Prop where
  lt : g + 2 < w.heap.size
  a : w.cell? ⟨g, 0, none⟩ = some (.int .i64 den)
  b : w.cell? ⟨g + 1, 0, none⟩ = some (.int .i64 d)
  c : ∃ o, w.cell? ⟨g + 2, 0, none⟩ = some o
  f : w.frozen? ⟨g + 2, 0, none⟩ = false
theorem TB.up {g n : Nat} {den d : Int} {w w1 : World} (h : TB g den d w) (hg : g + 2 < n) (B : Below n w w1) : TB g den d w1 := by
  obtain ⟨o, ho⟩ := h.c
  exact ⟨Nat.lt_of_lt_of_le h.lt B.size, (B.cell (p := ⟨g, 0, none⟩) (by show g < n; omega)).trans h.a, (B.cell (p := ⟨g + 1, 0, none⟩) (by show g + 1 < n; omega)).trans h.b, ⟨o, (B.cell (p := ⟨g + 2, 0, none⟩) hg).trans ho⟩, (B.frozen (p := ⟨g + 2, 0, none⟩) hg).trans h.f⟩
theorem TB.on {g : Nat} {den d : Int} {w w1 : World} (h : TB g den d w) (B : Below w.heap.size w w1) : TB g den d w1 := h.up h.lt B
def topW (w : World) (den d : Int) : World := ((w.alloc (.cells #[.int .i64 den] 3)).alloc (.cells #[.int .i64 d] 3)).alloc (.cells #[.bool false] 4)
theorem one_new (w : World) (v : Value) (t : TypeId) : (w.alloc (.cells #[v] t)).cell? ⟨w.heap.size, 0, none⟩ = some v := by rw [World.cell?_alloc_at _ _ _ _ rfl]; rfl
theorem tB_new (w : World) (den d : Int) : TB w.heap.size den d (topW w den d) ∧ Below w.heap.size w (topW w den d) := by
  unfold topW
  have hB := ((alloc_below w (.cells #[.int .i64 den] 3)).on (alloc_below _ (.cells #[.int .i64 d] 3))).on (alloc_below _ (.cells #[.bool false] 4))
  have s1 : (w.alloc (.cells #[.int .i64 den] 3)).heap.size = w.heap.size + 1 := World.size_alloc _ _
  have s2 : ((w.alloc (.cells #[.int .i64 den] 3)).alloc (.cells #[.int .i64 d] 3)).heap.size = w.heap.size + 2 := by rw [World.size_alloc, s1]
  have c0 := one_new w (.int .i64 den) 3
  have c1 := one_new (w.alloc (.cells #[.int .i64 den] 3)) (.int .i64 d) 3
  have c2 := one_new ((w.alloc (.cells #[.int .i64 den] 3)).alloc (.cells #[.int .i64 d] 3)) (.bool false) 4
  have f2 := newf ((w.alloc (.cells #[.int .i64 den] 3)).alloc (.cells #[.int .i64 d] 3)) #[.bool false] 4 _ 0 rfl
  rw [s1] at c1
  rw [s2] at c2 f2
  refine ⟨⟨by rw [World.size_alloc, s2]; omega, ?_, ?_, ⟨_, c2⟩, f2⟩, hB⟩
  · exact ((alloc_below _ _).cell (p := ⟨w.heap.size, 0, none⟩) (by rw [s2]; show w.heap.size < w.heap.size + 2; omega)).trans (((alloc_below _ _).cell (p := ⟨w.heap.size, 0, none⟩) (by rw [s1]; show w.heap.size < w.heap.size + 1; omega)).trans c0)
  · exact ((alloc_below _ _).cell (p := ⟨w.heap.size + 1, 0, none⟩) (by rw [s2]; show w.heap.size + 1 < w.heap.size + 2; omega)).trans c1
theorem kind_six : kindA 6 2 = (1, 2) := by decide +kernel
end Go.Proofs.Ytacpakmglmfgnaa
