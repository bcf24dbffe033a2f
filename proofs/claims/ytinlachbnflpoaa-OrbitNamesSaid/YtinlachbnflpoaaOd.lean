/-
  The walk of ratmap.At at the examples' maps and points.
-/
import Derived.Test.YtinlachbnflpoaaOc
import Derived.Deep.CutRange
namespace Go.Proofs.Ytinlachbnflpoaa
open Go.RowKit

@[go_sem] theorem run_store_complex {P : Program} {a : Addr} {m : Mode} (w : World) (k : FloatKind) (x y : Nat) : (store a (.complex k x y) m).run P w = stored P w a (.complex k x y) m := run_store P w a _ m rfl
/-- At's boxes: the map, the point, the answer. -/
structure AtM (g : Nat) (m0 m1 p0 p1 : Value) (w : World) : Prop where
  lt : g + 1 + 1 < w.heap.size
  a : w.cell? ⟨g, 0, none⟩ = some m0
  b : w.cell? ⟨g, 1, none⟩ = some m1
  c : w.cell? ⟨g + 1, 0, none⟩ = some p0
  d : w.cell? ⟨g + 1, 1, none⟩ = some p1
  r : w.cell? ⟨g + 1 + 1, 0, none⟩ = some (.complex .f64 0 0)
  s : w.cell? ⟨g + 1 + 1, 1, none⟩ = some (.bool false)
  f : ∀ i, w.frozen? ⟨g + 1 + 1, i, none⟩ = false
theorem AtM.on {g : Nat} {m0 m1 p0 p1 : Value} {w w1 : World} (h : AtM g m0 m1 p0 p1 w) (B : Below w.heap.size w w1) : AtM g m0 m1 p0 p1 w1 := by
  have hl := h.lt
  exact ⟨Nat.lt_of_lt_of_le h.lt B.size, (B.cell (p := ⟨g, 0, none⟩) (by show g < _; omega)).trans h.a, (B.cell (p := ⟨g, 1, none⟩) (by show g < _; omega)).trans h.b, (B.cell (p := ⟨g + 1, 0, none⟩) (by show g + 1 < _; omega)).trans h.c,
    (B.cell (p := ⟨g + 1, 1, none⟩) (by show g + 1 < _; omega)).trans h.d, (B.cell (p := ⟨g + 1 + 1, 0, none⟩) h.lt).trans h.r, (B.cell (p := ⟨g + 1 + 1, 1, none⟩) h.lt).trans h.s, fun i => (B.frozen (p := ⟨g + 1 + 1, i, none⟩) h.lt).trans (h.f i)⟩
def atW (w : World) (m0 m1 p0 p1 : Value) : World := ((w.alloc (.cells #[m0, m1] 27)).alloc (.cells #[p0, p1] 36)).alloc (.cells #[.complex .f64 0 0, .bool false] 36)
theorem atM_new (w : World) (m0 m1 p0 p1 : Value) : AtM w.heap.size m0 m1 p0 p1 (atW w m0 m1 p0 p1) ∧ Below w.heap.size w (atW w m0 m1 p0 p1) := by
  unfold atW
  refine ⟨⟨by simp, ?_, ?_, ?_, ?_, ?_, ?_, ?_⟩, (((Below.refl _ _).alloced).alloced).alloced⟩
  · rw [World.cell?_alloc_lt _ _ _ (by simp; omega), World.cell?_alloc_lt _ _ _ (by simp), World.cell?_alloc_at _ _ _ _ rfl]; rfl
  · rw [World.cell?_alloc_lt _ _ _ (by simp; omega), World.cell?_alloc_lt _ _ _ (by simp), World.cell?_alloc_at _ _ _ _ rfl]; rfl
  · rw [World.cell?_alloc_lt _ _ _ (by simp), World.cell?_alloc_at _ _ _ _ (by simp)]; rfl
  · rw [World.cell?_alloc_lt _ _ _ (by simp), World.cell?_alloc_at _ _ _ _ (by simp)]; rfl
  · rw [World.cell?_alloc_at _ _ _ _ (by simp)]; rfl
  · rw [World.cell?_alloc_at _ _ _ _ (by simp)]; rfl
  · intro i
    first
      | exact World.frozen?_alloc_at _ _ _ _ (by simp)
      | simp [World.frozen?]
theorem new0 (w : World) (t : TypeId) (o0 o1 : Value) : (w.alloc (.cells #[o0, o1] t)).cell? ⟨w.heap.size, 0, none⟩ = some o0 := by rw [World.cell?_alloc_at _ _ _ _ rfl]; rfl
theorem new1 (w : World) (t : TypeId) (o0 o1 : Value) : (w.alloc (.cells #[o0, o1] t)).cell? ⟨w.heap.size, 1, none⟩ = some o1 := by rw [World.cell?_alloc_at _ _ _ _ rfl]; rfl
theorem newf (w : World) (t : TypeId) (o0 o1 : Value) (i : Nat) : (w.alloc (.cells #[o0, o1] t)).frozen? ⟨w.heap.size, i, none⟩ = false := by
  first
    | exact World.frozen?_alloc_at _ _ _ _ rfl
    | simp [World.frozen?]
theorem cell_off (w : World) (g i j : Nat) (v : Value) (h : i ≠ j) : (w.setCell ⟨g, i, none⟩ v).cell? ⟨g, j, none⟩ = w.cell? ⟨g, j, none⟩ :=
  World.cell?_setCells_out g [v] i w ⟨g, j, none⟩ (fun _ _ => by simp; omega)
theorem two_set (w : World) (g : Nat) (v0 v1 o0 o1 : Value) (h0 : w.cell? ⟨g, 0, none⟩ = some o0) (h1 : w.cell? ⟨g, 1, none⟩ = some o1) :
    ((w.setCell ⟨g, 0, none⟩ v0).setCell ⟨g, 1, none⟩ v1).cell? ⟨g, 0, none⟩ = some v0 ∧ ((w.setCell ⟨g, 0, none⟩ v0).setCell ⟨g, 1, none⟩ v1).cell? ⟨g, 1, none⟩ = some v1 ∧
    ∀ B, B ≤ g → Below B w ((w.setCell ⟨g, 0, none⟩ v0).setCell ⟨g, 1, none⟩ v1) := by
  have a0 : (w.setCell ⟨g, 0, none⟩ v0).cell? ⟨g, 0, none⟩ = some v0 := World.cell?_setCell_same _ _ _ h0
  have a1 : (w.setCell ⟨g, 0, none⟩ v0).cell? ⟨g, 1, none⟩ = some o1 := by rw [cell_off _ _ _ _ _ (by omega)]; exact h1
  exact ⟨by rw [cell_off _ _ _ _ _ (by omega)]; exact a0, World.cell?_setCell_same _ _ _ a1, fun B hB => ((Below.refl B w).setCell hB _).setCell hB _⟩
set_option maxRecDepth 20000 in
set_option maxHeartbeats 2000000 in
theorem at_inf {b1 c1 b2 c2 : Nat} {L1 L2 : List (Nat × Nat)} (w : World) (h : MapOk w b1 c1 L1 b2 c2 L2) (hl : L1.length < L2.length) :
    Calls Try.prog 9 #[.agg #[.slice (some ⟨b1, 0, none⟩) L1.length c1, .slice (some ⟨b2, 0, none⟩) L2.length c2], .agg #[.complex .f64 0 0, .bool true]] w fun e w' => e = .returned (.tuple #[.agg #[.complex .f64 0 0, .bool false], .bool true]) ∧ Below w.heap.size w w' := by
  obtain ⟨hm0, hb0⟩ := atM_new w (.slice (some ⟨b1, 0, none⟩) L1.length c1) (.slice (some ⟨b2, 0, none⟩) L2.length c2) (.complex .f64 0 0) (.bool true)
  have HM0 := Lib.hid hm0
  have HB0 := Lib.hid hb0
  have HCK := Lib.hid (mcheck_any _ (h.below hb0))
  have HW : Hid (atW w (.slice (some ⟨b1, 0, none⟩) L1.length c1) (.slice (some ⟨b2, 0, none⟩) L2.length c2) (.complex .f64 0 0) (.bool true) = ((w.alloc (.cells #[.slice (some ⟨b1, 0, none⟩) L1.length c1, .slice (some ⟨b2, 0, none⟩) L2.length c2] 27)).alloc (.cells #[.complex .f64 0 0, .bool true] 36)).alloc (.cells #[.complex .f64 0 0, .bool false] 36)) := rfl
  clear hm0 hb0 h
  go_enter Try.func9, Try.ntmps9
  go_upto_region 4 with (first | (rw [← HW.out]; go_at_call 11; with_reducible refine HCK.out.mono ?_; rintro e w1 ⟨rfl, B1⟩; have M1 := Lib.hid (HM0.out.on B1); have BB1 := Lib.hid (HB0.out.on B1); obtain ⟨l1, x1, x2, x3, x4, x5, x6, x7⟩ := M1.out; clear B1) | (go_at_call 12; with_reducible refine (ispoint_inf _).mono ?_; rintro e w2 ⟨rfl, B2⟩; have M2 := Lib.hid (M1.out.on B2); have BB2 := Lib.hid (BB1.out.on B2); clear l1 x1 x2 x3 x4 x5 x6 x7; obtain ⟨l1, x1, x2, x3, x4, x5, x6, x7⟩ := M2.out; have x8 := x7 0; have x9 := x7 1; have y0 := new0 w2 36; have y1 := new1 w2 36; have yf := newf w2 36; clear B2 x7))
  have HF0 := Lib.hid (y0 (.complex .f64 0 0) (.bool true))
  have HF1 := Lib.hid (y1 (.complex .f64 0 0) (.bool true))
  have M3 := Lib.hid (M2.out.on (alloc_below w2 (.cells #[.complex .f64 0 0, .bool true] 36)))
  have BB3 := Lib.hid (BB2.out.alloced (o := .cells #[.complex .f64 0 0, .bool true] 36))
  have hsz : w2.heap.size < (w2.alloc (.cells #[.complex .f64 0 0, .bool true] 36)).heap.size := by simp
  clear l1 x1 x2 x3 x4 x5 x6 x8 x9 y0 y1 yf
  generalize w2.alloc (.cells #[.complex .f64 0 0, .bool true] 36) = w3 at *
  have f0 := HF0.out
  have f1 := HF1.out
  obtain ⟨l1, x1, x2, x3, x4, x5, x6, x7⟩ := M3.out
  have x8 := x7 0
  have x9 := x7 1
  clear x7
  have hlz : (L1.length : Int) < L2.length := by omega
  have hlz2 : ¬ (L2.length : Int) < L1.length := by omega
  go_wp2
  have hin := two_set w3 (w.heap.size + 1 + 1) (.complex .f64 0 0) (.bool false) _ _ x5 x6
  have HBF := Lib.hid (BB3.out.trans (hin.2.2 w.heap.size (by omega)))
  obtain ⟨r0, r1, _⟩ := hin
  generalize (w3.setCell ⟨w.heap.size + 1 + 1, 0, none⟩ (.complex .f64 0 0)).setCell ⟨w.heap.size + 1 + 1, 1, none⟩ (.bool false) = w9 at *
  refine bodyPost_ret (by simp [results, Try.results9, go_sem, r0, r1]; try rfl) rfl ?_
  exact ⟨rfl, HBF.out⟩
end Go.Proofs.Ytinlachbnflpoaa
