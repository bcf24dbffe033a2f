/-
  The walk of Run at the example.
-/
import Derived.Test.YtinlachbnflpoaaOm
import Derived.Deep.CutBlock
import Derived.Deep.RegionLaw
import Derived.Deep.AppendLies
import Derived.OneCell
import Derived.BigRegion
import Derived.Deep.LoopGhost
namespace Go.Proofs.Ytinlachbnflpoaa
open Go.RowKit

/-- Run's boxes: the map, the point, the answer. -/
structure RunM (g : Nat) (m0 m1 p0 p1 : Value) (w : World) : Prop where
  lt : g + 1 + 1 < w.heap.size
  a : w.cell? ⟨g, 0, none⟩ = some m0
  b : w.cell? ⟨g, 1, none⟩ = some m1
  c : w.cell? ⟨g + 1, 0, none⟩ = some p0
  d : w.cell? ⟨g + 1, 1, none⟩ = some p1
  fc : ∀ i, w.frozen? ⟨g + 1, i, none⟩ = false
  r0 : w.cell? ⟨g + 1 + 1, 0, none⟩ = some (.slice none 0 0)
  r1 : w.cell? ⟨g + 1 + 1, 1, none⟩ = some (.int .u8 0)
  r2 : w.cell? ⟨g + 1 + 1, 2, none⟩ = some (.int .i64 0)
  fr : ∀ i, w.frozen? ⟨g + 1 + 1, i, none⟩ = false
theorem RunM.on {g : Nat} {m0 m1 p0 p1 : Value} {w w1 : World} (h : RunM g m0 m1 p0 p1 w) (B : Below w.heap.size w w1) : RunM g m0 m1 p0 p1 w1 := by
  have hl := h.lt
  have l0 : g < w.heap.size := by omega
  have l1 : g + 1 < w.heap.size := by omega
  exact ⟨Nat.lt_of_lt_of_le h.lt B.size, (B.cell (p := ⟨g, 0, none⟩) l0).trans h.a, (B.cell (p := ⟨g, 1, none⟩) l0).trans h.b, (B.cell (p := ⟨g + 1, 0, none⟩) l1).trans h.c, (B.cell (p := ⟨g + 1, 1, none⟩) l1).trans h.d,
    fun i => (B.frozen (p := ⟨g + 1, i, none⟩) l1).trans (h.fc i), (B.cell (p := ⟨g + 1 + 1, 0, none⟩) hl).trans h.r0, (B.cell (p := ⟨g + 1 + 1, 1, none⟩) hl).trans h.r1, (B.cell (p := ⟨g + 1 + 1, 2, none⟩) hl).trans h.r2, fun i => (B.frozen (p := ⟨g + 1 + 1, i, none⟩) hl).trans (h.fr i)⟩
def runW (w : World) (m0 m1 p0 p1 : Value) : World := ((w.alloc (.cells #[m0, m1] 27)).alloc (.cells #[p0, p1] 36)).alloc (.cells #[.slice none 0 0, .int .u8 0, .int .i64 0] 31)
theorem newf_at (w : World) (cs : Array Value) (t : TypeId) (g i : Nat) (hg : g = w.heap.size) : (w.alloc (.cells cs t)).frozen? ⟨g, i, none⟩ = false := by
  subst hg
  first
    | exact World.frozen?_alloc_at _ _ _ _ rfl
    | (simp [World.frozen?, World.alloc])
theorem runM_new (w : World) (m0 m1 p0 p1 : Value) : RunM w.heap.size m0 m1 p0 p1 (runW w m0 m1 p0 p1) ∧ Below w.heap.size w (runW w m0 m1 p0 p1) := by
  unfold runW
  refine ⟨⟨by simp, ?_, ?_, ?_, ?_, ?_, ?_, ?_, ?_, ?_⟩, (((Below.refl _ _).alloced).alloced).alloced⟩
  · rw [World.cell?_alloc_lt _ _ _ (by simp; omega), World.cell?_alloc_lt _ _ _ (by simp), World.cell?_alloc_at _ _ _ _ rfl]; rfl
  · rw [World.cell?_alloc_lt _ _ _ (by simp; omega), World.cell?_alloc_lt _ _ _ (by simp), World.cell?_alloc_at _ _ _ _ rfl]; rfl
  · rw [World.cell?_alloc_lt _ _ _ (by simp), World.cell?_alloc_at _ _ _ _ (by simp)]; rfl
  · rw [World.cell?_alloc_lt _ _ _ (by simp), World.cell?_alloc_at _ _ _ _ (by simp)]; rfl
  · intro i
    exact ((alloc_below _ _).frozen (p := ⟨w.heap.size + 1, i, none⟩) (by simp)).trans (newf_at _ _ _ _ _ (by simp))
  · rw [World.cell?_alloc_at _ _ _ _ (by simp)]; rfl
  · rw [World.cell?_alloc_at _ _ _ _ (by simp)]; rfl
  · rw [World.cell?_alloc_at _ _ _ _ (by simp)]; rfl
  · intro i
    exact newf_at _ _ _ _ _ (by simp)
/-- The orbit's box, and the first point. -/
structure OrbM (pb ob : Nat) (sl : Value) (en fr : Int) (w : World) : Prop where
  lt : ob < w.heap.size
  a : w.cell? ⟨ob, 0, none⟩ = some sl
  b : w.cell? ⟨ob, 1, none⟩ = some (.int .u8 en)
  c : w.cell? ⟨ob, 2, none⟩ = some (.int .i64 fr)
  f : ∀ i, w.frozen? ⟨ob, i, none⟩ = false
theorem OrbM.on {pb ob : Nat} {sl : Value} {en fr : Int} {w w1 : World} (h : OrbM pb ob sl en fr w) (B : Below w.heap.size w w1) : OrbM pb ob sl en fr w1 :=
  ⟨Nat.lt_of_lt_of_le h.lt B.size, (B.cell (p := ⟨ob, 0, none⟩) h.lt).trans h.a, (B.cell (p := ⟨ob, 1, none⟩) h.lt).trans h.b, (B.cell (p := ⟨ob, 2, none⟩) h.lt).trans h.c, fun i => (B.frozen (p := ⟨ob, i, none⟩) h.lt).trans (h.f i)⟩
theorem own_below {w w' : World} {B e sz n : Nat} {v : Value} {xs : List Value} (h : w.ownsRow B e sz v n xs) (hb : Below w.heap.size w w') : w'.ownsRow B e sz v n xs := by
  refine ⟨h.1, ?_⟩
  rcases h.2 with h2 | ⟨g, cap, cur, hv, hB, hg, h1⟩
  · exact .inl h2
  · refine .inr ⟨g, cap, cur, hv, hB, ?_, h1⟩
    rw [hb.block g (Array.getElem?_eq_some_iff.1 hg).1]; exact hg
/-- Run's memory ahead of a round. -/
structure RunA (w0 : World) (g r ob : Nat) (m0 m1 p1 sl : Value) (n : Nat) (xs : List Value) (mp : Obj) (w : World) : Prop where
  m : RunM g m0 m1 (.complex .f64 0 0) p1 w
  o : ∃ pb, OrbM pb ob sl 3 0 w
  own : w.ownsRow w0.heap.size 36 2 sl n xs
  mp : w.heap[r]? = some mp
  rl : r < w.heap.size
  bel : Below w0.heap.size w0 w
  far : ∀ b, sl.ownBlock = some b → b ≠ ob ∧ b ≠ r ∧ b ≠ g + 1 ∧ b ≠ g + 1 + 1 ∧ b ≠ g
  d1 : g + 1 ≠ ob
  d2 : r ≠ ob
  d3 : g + 1 + 1 < r
  gl : w0.heap.size ≤ g
  ol : w0.heap.size ≤ ob
  rl0 : w0.heap.size ≤ r
theorem RunA.on {w0 : World} {g r ob : Nat} {m0 m1 p1 sl : Value} {n : Nat} {xs : List Value} {mp : Obj} {w w1 : World} (h : RunA w0 g r ob m0 m1 p1 sl n xs mp w) (B : Below w.heap.size w w1) : RunA w0 g r ob m0 m1 p1 sl n xs mp w1 := by
  obtain ⟨pb, ho⟩ := h.o
  exact ⟨h.m.on B, ⟨pb, ho.on B⟩, own_below h.own B, (B.block r h.rl).trans h.mp, Nat.lt_of_lt_of_le h.rl B.size, h.bel.on B, h.far, h.d1, h.d2, h.d3, h.gl, h.ol, h.rl0⟩
theorem RunM.of_blocks {g : Nat} {m0 m1 p0 p1 : Value} {w w1 : World} (h : RunM g m0 m1 p0 p1 w) (hs : w.heap.size ≤ w1.heap.size) (k0 : w1.heap[g]? = w.heap[g]?) (k1 : w1.heap[g + 1]? = w.heap[g + 1]?) (k2 : w1.heap[g + 1 + 1]? = w.heap[g + 1 + 1]?) : RunM g m0 m1 p0 p1 w1 :=
  ⟨Nat.lt_of_lt_of_le h.lt hs, (World.cell?_of_block k0).trans h.a, (World.cell?_of_block k0).trans h.b, (World.cell?_of_block k1).trans h.c, (World.cell?_of_block k1).trans h.d, fun i => (World.frozen?_of_block k1).trans (h.fc i),
    (World.cell?_of_block k2).trans h.r0, (World.cell?_of_block k2).trans h.r1, (World.cell?_of_block k2).trans h.r2, fun i => (World.frozen?_of_block k2).trans (h.fr i)⟩
theorem OrbM.of_block {pb ob : Nat} {sl : Value} {en fr : Int} {w w1 : World} (h : OrbM pb ob sl en fr w) (hs : w.heap.size ≤ w1.heap.size) (k : w1.heap[ob]? = w.heap[ob]?) : OrbM pb ob sl en fr w1 :=
  ⟨Nat.lt_of_lt_of_le h.lt hs, (World.cell?_of_block k).trans h.a, (World.cell?_of_block k).trans h.b, (World.cell?_of_block k).trans h.c, fun i => (World.frozen?_of_block k).trans (h.f i)⟩
theorem cell_far (w : World) (g i b j : Nat) (v : Value) (h : g ≠ b) : (w.setCell ⟨g, i, none⟩ v).cell? ⟨b, j, none⟩ = w.cell? ⟨b, j, none⟩ :=
  World.cell?_setCells_out g [v] i w ⟨b, j, none⟩ (fun hb _ => absurd hb.symm h)
theorem frozen_set (w : World) (a : Addr) (v : Value) (q : Addr) : (w.setCell a v).frozen? q = w.frozen? q := by simp
theorem kept8 {wc w8 : World} {o : Obj} {v : Value} (hg : (wc.alloc o).grownBy w8 v.ownBlock) (k : Nat) (hk : k < wc.heap.size) (hv : v.ownBlock ≠ some k) : w8.heap[k]? = wc.heap[k]? := by
  rw [hg.block k (by simp; omega) (fun e => hv e.symm)]
  exact Below.heap_alloc wc _ k hk
theorem kept9 {wc w8 : World} {o : Obj} {pb n c : Nat} (hg : (wc.alloc o).grownBy w8 (Value.slice (some ⟨pb, 0, none⟩) n c).ownBlock) (k : Nat) (hk : k < wc.heap.size) (hv : pb ≠ k) : w8.heap[k]? = wc.heap[k]? :=
  kept8 hg k hk (fun e => hv (by simpa [Value.ownBlock] using e))
/-- What an append to the points leaves. -/
structure App (g r ob nbx : Nat) (m0 m1 p1 sl : Value) (mp : Obj) (w8 : World) : Prop where
  m : RunM g m0 m1 (.complex .f64 0 0) p1 w8
  o : ∃ pb, OrbM pb ob sl 3 0 w8
  mp : w8.heap[r]? = some mp
  n0 : w8.cell? ⟨nbx, 0, none⟩ = some (.complex .f64 0 0)
  n1 : w8.cell? ⟨nbx, 1, none⟩ = some (.bool true)
theorem app_of {w0 : World} {g r ob nbx pb n c : Nat} {m0 m1 p1 : Value} {nn : Nat} {xs : List Value} {mp : Obj} {wc w8 : World} {o : Obj} (h : RunA w0 g r ob m0 m1 p1 (.slice (some ⟨pb, 0, none⟩) n c) nn xs mp wc) (hg : (wc.alloc o).grownBy w8 (Value.slice (some ⟨pb, 0, none⟩) n c).ownBlock)
    (h0 : wc.cell? ⟨nbx, 0, none⟩ = some (.complex .f64 0 0)) (h1 : wc.cell? ⟨nbx, 1, none⟩ = some (.bool true)) (hn : nbx < wc.heap.size) (hp : pb ≠ nbx) :
    App g r ob nbx m0 m1 p1 (.slice (some ⟨pb, 0, none⟩) n c) mp w8 := by
  obtain ⟨f1, f2, f3, f4, f5⟩ := h.far pb rfl
  obtain ⟨pbc, hO⟩ := h.o
  have hl := h.m.lt
  have hsw : wc.heap.size ≤ w8.heap.size := Nat.le_trans (by simp) hg.size
  exact ⟨h.m.of_blocks hsw (kept9 hg _ (by omega) f5) (kept9 hg _ (by omega) f3) (kept9 hg _ (by omega) f4), ⟨pbc, hO.of_block hsw (kept9 hg _ hO.lt f1)⟩, (kept9 hg r h.rl f2).trans h.mp,
    (World.cell?_of_block (kept9 hg nbx hn hp)).trans h0, (World.cell?_of_block (kept9 hg nbx hn hp)).trans h1⟩
theorem run_next {w0 : World} {g r ob nbx pb gn capn n c : Nat} {m0 m1 : Value} {xs ys : List Value} {nn : Nat} {mp : Obj} {wc w8 : World} (h : RunA w0 g r ob m0 m1 (.bool false) (.slice (some ⟨pb, 0, none⟩) n c) nn xs mp wc)
    (AP : App g r ob nbx m0 m1 (.bool false) (.slice (some ⟨pb, 0, none⟩) n c) mp w8) (ho : w8.ownsRow w0.heap.size 36 2 (.slice (some ⟨gn, 0, none⟩) 2 capn) 2 ys)
    (hv : (Value.slice (some ⟨pb, 0, none⟩) n c).ownBlock = some gn ∨ gn = wc.heap.size + 1) (hbel : Below w0.heap.size w0 w8) (hgo : g + 1 + 1 < ob) (hsz : wc.heap.size ≤ w8.heap.size) :
    RunA w0 g r ob m0 m1 (.bool true) (.slice (some ⟨gn, 0, none⟩) 2 capn) 2 ys mp (((w8.setCell ⟨ob, 0, none⟩ (.slice (some ⟨gn, 0, none⟩) 2 capn)).setCell ⟨g + 1, 0, none⟩ (.complex .f64 0 0)).setCell ⟨g + 1, 1, none⟩ (.bool true)) := by
  obtain ⟨pb9, hO⟩ := AP.o
  obtain ⟨pbc, hOc⟩ := h.o
  have hoc := hOc.lt
  have hrl := h.rl
  have hml := h.m.lt
  have hd3 := h.d3
  have hd2 := h.d2
  have hfar : gn ≠ ob ∧ gn ≠ r ∧ gn ≠ g + 1 ∧ gn ≠ g + 1 + 1 ∧ gn ≠ g := by
    rcases hv with hv | hv
    · have : pb = gn := by simpa [Value.ownBlock] using hv
      subst this
      exact h.far pb rfl
    · omega
  have hm := AP.m
  have a9 : ∀ b j, b ≠ ob → (w8.setCell ⟨ob, 0, none⟩ (.slice (some ⟨gn, 0, none⟩) 2 capn)).cell? ⟨b, j, none⟩ = w8.cell? ⟨b, j, none⟩ := fun b j hb => cell_far _ _ _ _ _ _ (Ne.symm hb)
  have c9 := (a9 (g + 1) 0 (by omega)).trans hm.c
  have d9 := (a9 (g + 1) 1 (by omega)).trans hm.d
  have s9 : (w8.setCell ⟨ob, 0, none⟩ (.slice (some ⟨gn, 0, none⟩) 2 capn)).cell? ⟨ob, 0, none⟩ = some (.slice (some ⟨gn, 0, none⟩) 2 capn) := World.cell?_setCell_same _ _ _ hO.a
  have s91 : (w8.setCell ⟨ob, 0, none⟩ (.slice (some ⟨gn, 0, none⟩) 2 capn)).cell? ⟨ob, 1, none⟩ = some (.int .u8 3) := by rw [cell_off _ _ _ _ _ (by omega)]; exact hO.b
  have s92 : (w8.setCell ⟨ob, 0, none⟩ (.slice (some ⟨gn, 0, none⟩) 2 capn)).cell? ⟨ob, 2, none⟩ = some (.int .i64 0) := by rw [cell_off _ _ _ _ _ (by omega)]; exact hO.c
  have z9 : ∀ q, (w8.setCell ⟨ob, 0, none⟩ (.slice (some ⟨gn, 0, none⟩) 2 capn)).frozen? q = w8.frozen? q := fun q => frozen_set _ _ _ _
  have b9 := hbel.setCell (p := ⟨ob, 0, none⟩) h.ol (.slice (some ⟨gn, 0, none⟩) 2 capn)
  have o9 := ownsRow_setCell_other ho (a := ⟨ob, 0, none⟩) (fun e => hfar.1 (by simpa [Value.ownBlock] using e)) (.slice (some ⟨gn, 0, none⟩) 2 capn)
  have p9 : (w8.setCell ⟨ob, 0, none⟩ (.slice (some ⟨gn, 0, none⟩) 2 capn)).heap[r]? = some mp := by rw [Below.heap_setCell _ _ _ _ (by show r ≠ ob; omega)]; exact AP.mp
  have n9 : w8.heap.size ≤ (w8.setCell ⟨ob, 0, none⟩ (.slice (some ⟨gn, 0, none⟩) 2 capn)).heap.size := by simp
  have hm0 := (a9 g 0 (by omega)).trans hm.a
  have hm1 := (a9 g 1 (by omega)).trans hm.b
  have hr0 := (a9 (g + 1 + 1) 0 (by omega)).trans hm.r0
  have hr1 := (a9 (g + 1 + 1) 1 (by omega)).trans hm.r1
  have hr2 := (a9 (g + 1 + 1) 2 (by omega)).trans hm.r2
  generalize w8.setCell ⟨ob, 0, none⟩ (.slice (some ⟨gn, 0, none⟩) 2 capn) = w9 at *
  obtain ⟨t0, t1, _⟩ := two_set w9 (g + 1) (.complex .f64 0 0) (.bool true) _ _ c9 d9
  have f : ∀ b j, b ≠ g + 1 → ((w9.setCell ⟨g + 1, 0, none⟩ (.complex .f64 0 0)).setCell ⟨g + 1, 1, none⟩ (.bool true)).cell? ⟨b, j, none⟩ = w9.cell? ⟨b, j, none⟩ := fun b j hb => by
    rw [cell_far _ _ _ _ _ _ (Ne.symm hb), cell_far _ _ _ _ _ _ (Ne.symm hb)]
  have z : ∀ q, ((w9.setCell ⟨g + 1, 0, none⟩ (.complex .f64 0 0)).setCell ⟨g + 1, 1, none⟩ (.bool true)).frozen? q = w9.frozen? q := fun q => by rw [frozen_set, frozen_set]
  have hsz2 : w9.heap.size ≤ ((w9.setCell ⟨g + 1, 0, none⟩ (.complex .f64 0 0)).setCell ⟨g + 1, 1, none⟩ (.bool true)).heap.size := by simp
  have hgl := h.gl
  refine ⟨⟨by omega, (f g 0 (by omega)).trans hm0, (f g 1 (by omega)).trans hm1, t0, t1, fun i => (z _).trans ((z9 _).trans (hm.fc i)), (f _ 0 (by omega)).trans hr0, (f _ 1 (by omega)).trans hr1, (f _ 2 (by omega)).trans hr2, fun i => (z _).trans ((z9 _).trans (hm.fr i))⟩,
    ⟨pb9, ⟨by omega, (f ob 0 (by omega)).trans s9, (f ob 1 (by omega)).trans s91, (f ob 2 (by omega)).trans s92, fun i => (z _).trans ((z9 _).trans (hO.f i))⟩⟩, ?_, ?_, by omega, ?_, ?_, h.d1, h.d2, h.d3, h.gl, h.ol, h.rl0⟩
  · have k : (Value.slice (some ⟨gn, 0, none⟩) 2 capn).ownBlock ≠ some (g + 1) := fun e => hfar.2.2.1 (by simpa [Value.ownBlock] using e)
    exact ownsRow_setCell_other (ownsRow_setCell_other o9 (a := ⟨g + 1, 0, none⟩) k _) (a := ⟨g + 1, 1, none⟩) k _
  · rw [Below.heap_setCell _ _ _ _ (by show r ≠ g + 1; omega), Below.heap_setCell _ _ _ _ (by show r ≠ g + 1; omega)]; exact p9
  · exact (b9.setCell (p := ⟨g + 1, 0, none⟩) (by show _ ≤ g + 1; omega) _).setCell (p := ⟨g + 1, 1, none⟩) (by show _ ≤ g + 1; omega) _
  · intro b hb
    have : gn = b := by simpa [Value.ownBlock] using hb
    subst this
    exact hfar
theorem info36 : (Try.prog.info? 36).map (fun i => (i.zero, i.size, i.bytes)) = some (some (.agg #[.complex .f64 0 0, .bool false]), 2, 24) := by kernel_rfl
theorem cell_off3 (w : World) (g i j : Nat) (v : Value) (h : i ≠ j) : (w.setCell ⟨g, i, none⟩ v).cell? ⟨g, j, none⟩ = w.cell? ⟨g, j, none⟩ := cell_off w g i j v h
/-- The two stores into the orbit's box. -/
theorem two_off (w : World) (ob : Nat) (sl v0 v1 : Value) (en fr : Int) (pb : Nat) (h : OrbM pb ob sl en fr w) :
    let W := (w.setCell ⟨ob, 1, none⟩ v0).setCell ⟨ob, 2, none⟩ v1
    W.cell? ⟨ob, 0, none⟩ = some sl ∧ W.cell? ⟨ob, 1, none⟩ = some v0 ∧ W.cell? ⟨ob, 2, none⟩ = some v1 ∧ (∀ b j, b ≠ ob → W.cell? ⟨b, j, none⟩ = w.cell? ⟨b, j, none⟩) ∧ (∀ q, W.frozen? q = w.frozen? q) ∧ ∀ B, B ≤ ob → Below B w W := by
  intro W
  have a1 : (w.setCell ⟨ob, 1, none⟩ v0).cell? ⟨ob, 1, none⟩ = some v0 := World.cell?_setCell_same _ _ _ h.b
  have a2 : (w.setCell ⟨ob, 1, none⟩ v0).cell? ⟨ob, 2, none⟩ = some (.int .i64 fr) := by rw [cell_off _ _ _ _ _ (by omega)]; exact h.c
  refine ⟨?_, ?_, World.cell?_setCell_same _ _ _ a2, fun b j hb => ?_, fun q => ?_, fun B hB => ((Below.refl B w).setCell hB _).setCell hB _⟩
  · show ((w.setCell ⟨ob, 1, none⟩ v0).setCell ⟨ob, 2, none⟩ v1).cell? _ = _
    rw [cell_off _ _ _ _ _ (by omega), cell_off _ _ _ _ _ (by omega)]; exact h.a
  · show ((w.setCell ⟨ob, 1, none⟩ v0).setCell ⟨ob, 2, none⟩ v1).cell? _ = _
    rw [cell_off _ _ _ _ _ (by omega)]; exact a1
  · show ((w.setCell ⟨ob, 1, none⟩ v0).setCell ⟨ob, 2, none⟩ v1).cell? _ = _
    rw [cell_far _ _ _ _ _ _ (Ne.symm hb), cell_far _ _ _ _ _ _ (Ne.symm hb)]
  · show ((w.setCell ⟨ob, 1, none⟩ v0).setCell ⟨ob, 2, none⟩ v1).frozen? q = _
    rw [frozen_set, frozen_set]
/-- Three stores into a box. -/
theorem three_set (w : World) (g : Nat) (v0 v1 v2 o0 o1 o2 : Value) (h0 : w.cell? ⟨g, 0, none⟩ = some o0) (h1 : w.cell? ⟨g, 1, none⟩ = some o1) (h2 : w.cell? ⟨g, 2, none⟩ = some o2) :
    let W := ((w.setCell ⟨g, 0, none⟩ v0).setCell ⟨g, 1, none⟩ v1).setCell ⟨g, 2, none⟩ v2
    W.cell? ⟨g, 0, none⟩ = some v0 ∧ W.cell? ⟨g, 1, none⟩ = some v1 ∧ W.cell? ⟨g, 2, none⟩ = some v2 ∧ (∀ b j, b ≠ g → W.cell? ⟨b, j, none⟩ = w.cell? ⟨b, j, none⟩) ∧ ∀ B, B ≤ g → Below B w W := by
  intro W
  obtain ⟨a0, a1, _⟩ := two_set w g v0 v1 o0 o1 h0 h1
  have a2 : ((w.setCell ⟨g, 0, none⟩ v0).setCell ⟨g, 1, none⟩ v1).cell? ⟨g, 2, none⟩ = some o2 := by
    rw [cell_off _ _ _ _ _ (by omega), cell_off _ _ _ _ _ (by omega)]; exact h2
  refine ⟨?_, ?_, World.cell?_setCell_same _ _ _ a2, fun b j hb => ?_, fun B hB => (((Below.refl B w).setCell hB _).setCell hB _).setCell hB _⟩
  · show (((w.setCell ⟨g, 0, none⟩ v0).setCell ⟨g, 1, none⟩ v1).setCell ⟨g, 2, none⟩ v2).cell? _ = _
    rw [cell_off _ _ _ _ _ (by omega)]; exact a0
  · show (((w.setCell ⟨g, 0, none⟩ v0).setCell ⟨g, 1, none⟩ v1).setCell ⟨g, 2, none⟩ v2).cell? _ = _
    rw [cell_off _ _ _ _ _ (by omega)]; exact a1
  · show (((w.setCell ⟨g, 0, none⟩ v0).setCell ⟨g, 1, none⟩ v1).setCell ⟨g, 2, none⟩ v2).cell? _ = _
    rw [cell_far _ _ _ _ _ _ (Ne.symm hb), cell_far _ _ _ _ _ _ (Ne.symm hb), cell_far _ _ _ _ _ _ (Ne.symm hb)]
theorem halloc (w : World) (o : Obj) : (w.alloc o).heap[w.heap.size]? = some o := by
  show (w.heap.push o)[w.heap.size]? = _
  simp
theorem own_lone (w : World) (B : Nat) (x y : Value) (hB : B ≤ w.heap.size) : (w.alloc (.cells #[x, y] 36)).ownsRow B 36 2 (.slice (some ⟨w.heap.size, 0, none⟩) 1 1) 1 [x, y] :=
  ⟨rfl, .inr ⟨w.heap.size, 1, #[x, y], rfl, hB, halloc _ _, Nat.le_refl _, by unfold maxLen; omega, rfl, rfl⟩⟩
theorem own_setMap {w : World} {B e sz n r : Nat} {v : Value} {xs : List Value} {o : Obj} (h : w.ownsRow B e sz v n xs) (hr : ∀ b, v.ownBlock = some b → b ≠ r) : (setMap w r o).ownsRow B e sz v n xs := by
  refine ⟨h.1, ?_⟩
  rcases h.2 with h2 | ⟨g, cap, cur, hv, hB, hg, h1⟩
  · exact .inl h2
  · refine .inr ⟨g, cap, cur, hv, hB, ?_, h1⟩
    have := hr g (by rw [hv]; rfl)
    simp only [setMap]
    rw [Array.getElem?_setIfInBounds_ne (Ne.symm this)]; exact hg
theorem RunM.setMap {g r : Nat} {m0 m1 p0 p1 : Value} {w : World} {o : Obj} (h : RunM g m0 m1 p0 p1 w) (hr : g + 1 + 1 < r) : RunM g m0 m1 p0 p1 (setMap w r o) := by
  have k : ∀ a : Addr, a.block ≤ g + 1 + 1 → (Ytinlachbnflpoaa.setMap w r o).cell? a = w.cell? a := fun a ha => setMap_cell a (by omega)
  have f : ∀ a : Addr, a.block ≤ g + 1 + 1 → (Ytinlachbnflpoaa.setMap w r o).frozen? a = w.frozen? a := fun a ha => setMap_frozen a (by omega)
  have hs : (Ytinlachbnflpoaa.setMap w r o).heap.size = w.heap.size := by simp [Ytinlachbnflpoaa.setMap]
  exact ⟨by rw [hs]; exact h.lt, (k _ (by show g ≤ _; omega)).trans h.a, (k _ (by show g ≤ _; omega)).trans h.b, (k _ (by show g + 1 ≤ _; omega)).trans h.c, (k _ (by show g + 1 ≤ _; omega)).trans h.d, fun i => (f _ (by show g + 1 ≤ _; omega)).trans (h.fc i),
    (k _ (Nat.le_refl _)).trans h.r0, (k _ (Nat.le_refl _)).trans h.r1, (k _ (Nat.le_refl _)).trans h.r2, fun i => (f _ (Nat.le_refl _)).trans (h.fr i)⟩
theorem OrbM.setMap {pb ob r : Nat} {sl : Value} {en fr : Int} {w : World} {o : Obj} (h : OrbM pb ob sl en fr w) (hr : ob ≠ r) : OrbM pb ob sl en fr (setMap w r o) :=
  ⟨by simp only [Ytinlachbnflpoaa.setMap, Array.size_setIfInBounds]; exact h.lt, (setMap_cell _ hr).trans h.a, (setMap_cell _ hr).trans h.b, (setMap_cell _ hr).trans h.c, fun i => (setMap_frozen _ hr).trans (h.f i)⟩
theorem RunA.setMap {w0 : World} {g r ob : Nat} {m0 m1 p1 sl : Value} {n : Nat} {xs : List Value} {mp o : Obj} {w : World} (h : RunA w0 g r ob m0 m1 p1 sl n xs mp w) : RunA w0 g r ob m0 m1 p1 sl n xs o (setMap w r o) := by
  obtain ⟨pb, ho⟩ := h.o
  exact ⟨h.m.setMap h.d3, ⟨pb, ho.setMap (Ne.symm h.d2)⟩, own_setMap h.own (fun b hb => (h.far b hb).2.1), setMap_heap h.mp, by simp only [Ytinlachbnflpoaa.setMap, Array.size_setIfInBounds]; exact h.rl, h.bel.trans (setMap_below h.rl0), h.far, h.d1, h.d2, h.d3, h.gl, h.ol, h.rl0⟩
set_option maxRecDepth 20000 in
set_option maxHeartbeats 4000000 in
theorem run_any {b1 c1 b2 c2 : Nat} (w : World) (h : MapOk w b1 c1 (re [4607182418800017408]) b2 c2 (re [0, 0, 4607182418800017408])) :
    Calls Try.prog 5 #[.agg #[.slice (some ⟨b1, 0, none⟩) 1 c1, .slice (some ⟨b2, 0, none⟩) 3 c2], .agg #[.complex .f64 0 0, .bool false], .int .i64 10] w fun e w' => ∃ b cap, e = .returned (.tuple #[.agg #[.slice (some ⟨b, 0, none⟩) 2 cap, .int .u8 1, .int .i64 0], .int .i64 0]) ∧ w'.cell? ⟨b, 3, none⟩ = some (.bool true) ∧ b < w'.heap.size ∧ Below w.heap.size w w' := by
  obtain ⟨hm0, hb0⟩ := runM_new w (.slice (some ⟨b1, 0, none⟩) 1 c1) (.slice (some ⟨b2, 0, none⟩) 3 c2) (.complex .f64 0 0) (.bool false)
  have HM0 := Lib.hid hm0
  have HB0 := Lib.hid hb0
  have hmay := may_any _ (h.below hb0) fi_zero
  have HMAY : Hid (Calls Try.prog 7 #[.agg #[.slice (some ⟨b1, 0, none⟩) 1 c1, .slice (some ⟨b2, 0, none⟩) 3 c2], .agg #[.complex .f64 0 0, .bool false]] (runW w (.slice (some ⟨b1, 0, none⟩) 1 c1) (.slice (some ⟨b2, 0, none⟩) 3 c2) (.complex .f64 0 0) (.bool false)) fun e w' => e = .returned (.bool true) ∧ Below (runW w (.slice (some ⟨b1, 0, none⟩) 1 c1) (.slice (some ⟨b2, 0, none⟩) 3 c2) (.complex .f64 0 0) (.bool false)).heap.size (runW w (.slice (some ⟨b1, 0, none⟩) 1 c1) (.slice (some ⟨b2, 0, none⟩) 3 c2) (.complex .f64 0 0) (.bool false)) w') := hmay
  have HW : Hid (runW w (.slice (some ⟨b1, 0, none⟩) 1 c1) (.slice (some ⟨b2, 0, none⟩) 3 c2) (.complex .f64 0 0) (.bool false) = ((w.alloc (.cells #[.slice (some ⟨b1, 0, none⟩) 1 c1, .slice (some ⟨b2, 0, none⟩) 3 c2] 27)).alloc (.cells #[.complex .f64 0 0, .bool false] 36)).alloc (.cells #[.slice none 0 0, .int .u8 0, .int .i64 0] 31)) := rfl
  have HM := Lib.hid h
  clear h hm0 hb0 hmay
  go_enter Try.func5, Try.ntmps5
  go_upto_region 4 with (first | (rw [← HW.out]; go_at_call 7; with_reducible refine HMAY.out.mono ?_; rintro e w1 ⟨rfl, B1⟩; have M1 := Lib.hid (HM0.out.on B1); have BB1 := Lib.hid (HB0.out.on B1); obtain ⟨l1, x1, x2, x3, x4, x5, x6, x7, x8, x9⟩ := M1.out; clear B1) | (go_at_call 8; with_reducible refine (key_fin 0 _).mono ?_; rintro e w2 ⟨rfl, B2⟩))
  have hO : OrbM w1.heap.size (w1.heap.size + 1) (.slice (some ⟨w1.heap.size, 0, none⟩) 1 1) 3 0 ((w1.alloc (.cells #[.complex .f64 0 0, .bool false] 36)).alloc (.cells #[.slice (some ⟨w1.heap.size, 0, none⟩) 1 1, .int .u8 3, .int .i64 0] 31)) := by
    refine ⟨by simp, ?_, ?_, ?_, fun i => newf_at _ _ _ _ _ (by simp)⟩
    · rw [World.cell?_alloc_at _ _ _ _ (by simp)]; rfl
    · rw [World.cell?_alloc_at _ _ _ _ (by simp)]; rfl
    · rw [World.cell?_alloc_at _ _ _ _ (by simp)]; rfl
  have hP0 : ((w1.alloc (.cells #[.complex .f64 0 0, .bool false] 36)).alloc (.cells #[.slice (some ⟨w1.heap.size, 0, none⟩) 1 1, .int .u8 3, .int .i64 0] 31)).cell? ⟨w1.heap.size, 0, none⟩ = some (.complex .f64 0 0) := by
    rw [World.cell?_alloc_lt _ _ _ (by simp), World.cell?_alloc_at _ _ _ _ rfl]; rfl
  have hP1 : ((w1.alloc (.cells #[.complex .f64 0 0, .bool false] 36)).alloc (.cells #[.slice (some ⟨w1.heap.size, 0, none⟩) 1 1, .int .u8 3, .int .i64 0] 31)).cell? ⟨w1.heap.size, 1, none⟩ = some (.bool false) := by
    rw [World.cell?_alloc_lt _ _ _ (by simp), World.cell?_alloc_at _ _ _ _ rfl]; rfl
  have hOW := own_below (own_lone w1 w.heap.size (.complex .f64 0 0) (.bool false) (BB1.out.size)) (alloc_below _ (.cells #[.slice (some ⟨w1.heap.size, 0, none⟩) 1 1, .int .u8 3, .int .i64 0] 31))
  have hB2 := ((Below.refl w1.heap.size w1).alloced (o := .cells #[.complex .f64 0 0, .bool false] 36)).alloced (o := .cells #[.slice (some ⟨w1.heap.size, 0, none⟩) 1 1, .int .u8 3, .int .i64 0] 31)
  have M2 := Lib.hid (M1.out.on hB2)
  have BB2 := Lib.hid (BB1.out.on hB2)
  have O2 := Lib.hid hO
  have P20 := Lib.hid hP0
  have P21 := Lib.hid hP1
  have OW2 := Lib.hid hOW
  have hsz2 : w1.heap.size + 1 < ((w1.alloc (.cells #[.complex .f64 0 0, .bool false] 36)).alloc (.cells #[.slice (some ⟨w1.heap.size, 0, none⟩) 1 1, .int .u8 3, .int .i64 0] 31)).heap.size := by simp
  have hlp : w1.heap.size < w1.heap.size + 1 := by omega
  have HL1 : Hid (w.heap.size + 1 + 1 < w1.heap.size) := l1
  clear l1 x1 x2 x3 x4 x5 x6 x7 x8 x9 hO hP0 hP1 hB2 hOW M1
  generalize ((w1.alloc (.cells #[.complex .f64 0 0, .bool false] 36)).alloc (.cells #[.slice (some ⟨w1.heap.size, 0, none⟩) 1 1, .int .u8 3, .int .i64 0] 31)) = w2 at *
  obtain ⟨l1, x1, x2, x3, x4, x5, x6, x7, x8, x9⟩ := M2.out
  have A2 : Hid (RunA w w.heap.size w2.heap.size (w1.heap.size + 1) (.slice (some ⟨b1, 0, none⟩) 1 c1) (.slice (some ⟨b2, 0, none⟩) 3 c2) (.bool false) (.slice (some ⟨w1.heap.size, 0, none⟩) 1 1) 1 [.complex .f64 0 0, .bool false] (.map #[] 0) (w2.alloc (.map #[] 0))) := by
    have hl := HL1.out
    refine ⟨M2.out.on (alloc_below _ _), ⟨w1.heap.size, O2.out.on (alloc_below _ _)⟩, own_below OW2.out (alloc_below _ _), halloc _ _, by simp, BB2.out.on (alloc_below _ _), ?_, by omega, by omega, by omega, Nat.le_refl _, by omega, by omega⟩
    intro b hb
    have hbb : w1.heap.size = b := by simpa [Value.ownBlock] using hb
    omega
  have za : (w2.alloc (.map #[] 0)).cell? ⟨w.heap.size + 1, 0, none⟩ = some (.complex .f64 0 0) := ((alloc_below w2 (.map #[] 0)).cell (p := ⟨w.heap.size + 1, 0, none⟩) (by show w.heap.size + 1 < _; omega)).trans x3
  have zb : (w2.alloc (.map #[] 0)).cell? ⟨w.heap.size + 1, 1, none⟩ = some (.bool false) := ((alloc_below w2 (.map #[] 0)).cell (p := ⟨w.heap.size + 1, 1, none⟩) (by show w.heap.size + 1 < _; omega)).trans x4
  go_upto_block 0 with (first | (go_at_call 8; with_reducible refine (key_fin 0 _).mono ?_; rintro e w3 ⟨rfl, B3⟩; have A3 := Lib.hid (A2.out.on B3); have hmp := A3.out.mp))
  have A4 := Lib.hid (A3.out.setMap (o := .map #[{ key := k0, val := .int .i64 0, born := 0 }] 1))
  generalize setMap w3 w2.heap.size (.map #[{ key := k0, val := .int .i64 0, born := 0 }] 1) = w4 at *
  have HG : Hid (w.heap.size + 1 + 1 < w2.heap.size) := by show _ < _; have := HL1.out; omega
  clear hmp A3 A2 za zb B3 l1 x1 x2 x3 x4 x5 x6 x7 x8 x9
  generalize w2.heap.size = r at *
  generalize hob : w1.heap.size + 1 = ob at *
  go_wp2
  have HD1 := A4.out.d1
  have HD2 := A4.out.d2
  go_loopg [35] 1 (fun g vi wx => (g = 1 ∧ vi = .int .i64 0 ∧ Hid (RunA w w.heap.size r ob (.slice (some ⟨b1, 0, none⟩) 1 c1) (.slice (some ⟨b2, 0, none⟩) 3 c2) (.bool false) (.slice (some ⟨w1.heap.size, 0, none⟩) 1 1) 1 [.complex .f64 0 0, .bool false] (.map #[{ key := k0, val := .int .i64 0, born := 0 }] 1) wx)) ∨
    (g = 0 ∧ vi = .int .i64 1 ∧ ∃ (nb cap : Nat), Hid (RunA w w.heap.size r ob (.slice (some ⟨b1, 0, none⟩) 1 c1) (.slice (some ⟨b2, 0, none⟩) 3 c2) (.bool true) (.slice (some ⟨nb, 0, none⟩) 2 cap) 2 [.complex .f64 0 0, .bool false, .complex .f64 0 0, .bool true] (.map #[{ key := k0, val := .int .i64 0, born := 0 }, { key := k1, val := .int .i64 1, born := 1 }] 2) wx)))
  case atStart => exact .inl ⟨rfl, rfl, A4⟩
  case round =>
    rcases hrel with ⟨rfl, rfl, HA⟩ | ⟨rfl, rfl, nb, cap, HA⟩
    · have HX := Lib.hid (ex1_at0 wr (HM.out.below HA.out.bel))
      obtain ⟨pb, hO⟩ := HA.out.o
      obtain ⟨l1, x1, x2, x3, x4, x5, x6, x7, x8, x9⟩ := HA.out.m
      clear A4
      go_upto_region 8 with (first | (go_at_call 9; with_reducible refine HX.out.mono ?_; rintro e w5 ⟨rfl, B5⟩; have A5 := Lib.hid (HA.out.on B5)))
      have A6 := Lib.hid (A5.out.on (alloc_below w5 (.cells #[.complex .f64 0 0, .bool true] 36)))
      have q0 := new0 w5 36 (.complex .f64 0 0) (.bool true)
      have q1 := new1 w5 36 (.complex .f64 0 0) (.bool true)
      have hq : w5.heap.size < (w5.alloc (.cells #[.complex .f64 0 0, .bool true] 36)).heap.size := by simp
      have hnr : r < w5.heap.size := Nat.lt_of_lt_of_le HA.out.rl B5.size
      clear l1 x1 x2 x3 x4 x5 x6 x7 x8 x9 hO B5
      generalize w5.alloc (.cells #[.complex .f64 0 0, .bool true] 36) = w6 at *
      generalize w5.heap.size = nbx at *
      go_upto_region 15 with (first | (go_at_call 8; with_reducible refine (key_inf _).mono ?_; rintro e w7 ⟨rfl, B7⟩; have A7 := Lib.hid (A6.out.on B7); have n0 := (B7.cell (p := ⟨nbx, 0, none⟩) hq).trans q0; have n1 := (B7.cell (p := ⟨nbx, 1, none⟩) hq).trans q1; have hq7 : nbx < w7.heap.size := Nat.lt_of_lt_of_le hq B7.size; have hlk := look_1 w7 r 1 (.int .i64 0) 0 A7.out.mp))
      clear q0 q1 hq hlk A6 A5
      go_cut [] from 36 to 72 (fun wx => Hid (RunA w w.heap.size r ob (.slice (some ⟨b1, 0, none⟩) 1 c1) (.slice (some ⟨b2, 0, none⟩) 3 c2) (.bool false) (.slice (some ⟨w1.heap.size, 0, none⟩) 1 1) 1 [.complex .f64 0 0, .bool false] (.map #[{ key := k0, val := .int .i64 0, born := 0 }, { key := k1, val := .int .i64 1, born := 1 }] 2) wx) ∧ wx.cell? ⟨nbx, 0, none⟩ = some (.complex .f64 0 0) ∧ wx.cell? ⟨nbx, 1, none⟩ = some (.bool true) ∧ nbx < wx.heap.size)
      case first =>
        obtain ⟨pb7, hO⟩ := A7.out.o
        obtain ⟨o1, o2, o3, o4, o5⟩ := hO
        go_region_law (first | (go_simp; go_at_call 8; refine (key_inf _).mono ?_; rintro e w8 ⟨rfl, B8⟩; have A8 := Lib.hid ((A7.out.on (Below.refl _ _).drew).on B8); have hup := upd_second w8 r 1 (.int .i64 0) (.int .i64 1) 0 A8.out.mp; obtain ⟨pb8, hO8⟩ := A8.out.o; have o18 := hO8.a; have c0 := (B8.cell (p := ⟨nbx, 0, none⟩) hq7).trans n0; have c1' := (B8.cell (p := ⟨nbx, 1, none⟩) hq7).trans n1; have c2' := Nat.lt_of_lt_of_le hq7 B8.size))
        all_goals
          go_wp2_with fail
          go_meet
          exact ⟨A8.out.setMap, (setMap_cell _ (by show nbx ≠ r; omega)).trans c0, (setMap_cell _ (by show nbx ≠ r; omega)).trans c1', by simp only [setMap, Array.size_setIfInBounds]; exact c2'⟩
      case rest =>
        obtain ⟨i0, hi0, hz0, hz1, hz2⟩ := info_parts info36
        obtain ⟨HAc, n20, n21, n22⟩ := hcut
        have HI := Lib.hid HAc
        clear n0 n1 hq7 A7 B7 HAc
        obtain ⟨pbc, hO⟩ := HI.out.o
        obtain ⟨o1, o2, o3, o4, o5⟩ := hO
        have f0 := o5 0
        have HSZ := Lib.hid HI.out.bel.size
        have HN0 := Lib.hid n20
        have HN1 := Lib.hid n21
        have HN2 := Lib.hid n22
        have HPB : Hid (w1.heap.size ≠ nbx) := by show _ ≠ _; omega
        go_upto_region 17 with (first | (at_builtin; refine wpList_append_lies _ rfl _ _ 28 rfl w.heap.size 36 i0 _ 2 24 Try.underlying28 hi0 hz0 hz1 hz2 rfl (by omega) (.slice (some ⟨w1.heap.size, 0, none⟩) 1 1) 1 [.complex .f64 0 0, .bool false] rfl (own_below HI.out.own (alloc_below _ _)) ⟨wc.heap.size, 0, none⟩ 1 1 [.complex .f64 0 0, .bool true] rfl rfl (World.news_of_block (cs := #[.complex .f64 0 0, .bool true]) (t := 36) (fr := (0, 0)) (halloc _ _)) (by intro u hu; simp at hu; rcases hu with rfl | rfl <;> rfl) (by omega) (by unfold maxLen; omega) (by omega) (by have := HSZ.out; simp; omega) (wc.heap.size + 1) (by simp) ?_; intro gn capn w8 ho8 hg8 hv8 hl8; have AP := Lib.hid (app_of HI.out hg8 HN0.out HN1.out HN2.out HPB.out); obtain ⟨pb9, hO9⟩ := AP.out.o; have p1' := hO9.a; have p2' := hO9.f 0; have p3' := AP.out.m.c; have p4' := AP.out.m.d; have p5' := AP.out.m.fc 0; have p6' := AP.out.m.fc 1; have e20 := AP.out.n0; have e21 := AP.out.n1))
        have HGO : Hid (w.heap.size + 1 + 1 < ob) := by show _ < _; have := HL1.out; omega
        have hnob : nbx ≠ ob := by omega
        have hg1 : w.heap.size + 1 ≠ ob := HD1
        have HNX := Lib.hid (run_next HI.out AP.out ho8 hv8 ((HI.out.bel.alloc HI.out.bel.size _).grown hg8 (Nat.le_trans HI.out.bel.size (by simp)) (fun k hk => (HI.out.own.lt k hk).1)) HGO.out (Nat.le_trans (by simp) hg8.size))
        have v0 := (cell_far w8 ob 0 nbx 0 (.slice (some ⟨gn, 0, none⟩) 2 capn) (Ne.symm hnob)).trans e20
        have v1 := (cell_far w8 ob 0 nbx 1 (.slice (some ⟨gn, 0, none⟩) 2 capn) (Ne.symm hnob)).trans e21
        have v2 := (cell_far w8 ob 0 (w.heap.size + 1) 0 (.slice (some ⟨gn, 0, none⟩) 2 capn) (Ne.symm hg1)).trans p3'
        have v3 := (cell_far w8 ob 0 (w.heap.size + 1) 1 (.slice (some ⟨gn, 0, none⟩) 2 capn) (Ne.symm hg1)).trans p4'
        clear e20 e21 p1' p2' p3' p4' ho8 hg8 hv8 hl8
        go_wp2
        go_roundg 0
        case measure => omega
        case rel => exact .inr ⟨rfl, rfl, gn, capn, HNX⟩
    · have HX := Lib.hid (ex1_inf wr (HM.out.below HA.out.bel))
      obtain ⟨pb, hO⟩ := HA.out.o
      obtain ⟨l1, x1, x2, x3, x4, x5, x6, x7, x8, x9⟩ := HA.out.m
      clear A4
      go_upto_region 8 with (first | (go_at_call 9; with_reducible refine HX.out.mono ?_; rintro e w5 ⟨rfl, B5⟩; have A5 := Lib.hid (HA.out.on B5)))
      have A6 := Lib.hid (A5.out.on (alloc_below w5 (.cells #[.complex .f64 0 0, .bool false] 36)))
      have q0 := new0 w5 36 (.complex .f64 0 0) (.bool false)
      have q1 := new1 w5 36 (.complex .f64 0 0) (.bool false)
      have hq : w5.heap.size < (w5.alloc (.cells #[.complex .f64 0 0, .bool false] 36)).heap.size := by simp
      clear l1 x1 x2 x3 x4 x5 x6 x7 x8 x9 hO B5
      generalize w5.alloc (.cells #[.complex .f64 0 0, .bool false] 36) = w6 at *
      generalize w5.heap.size = nbx at *
      go_upto_region 13 with (first | (go_at_call 8; with_reducible refine (key_fin 0 _).mono ?_; rintro e w7 ⟨rfl, B7⟩; have A7 := Lib.hid (A6.out.on B7); have hlk := look_0 w7 r 2 (.int .i64 0) (.int .i64 1) 0 1 A7.out.mp))
      obtain ⟨pb7, hO⟩ := A7.out.o
      obtain ⟨l1, x1, x2, x3, x4, x5, x6, x7, x8, x9⟩ := A7.out.m
      obtain ⟨o1, o2, o3, o4, o5⟩ := hO
      have f0 := o5 0
      have f1 := o5 1
      have f2 := o5 2
      have h0 := x9 0
      have h1 := x9 1
      have h2 := x9 2
      clear hlk
      go_upto_region 14 with fail
      have hOB : OrbM pb7 ob (.slice (some ⟨nb, 0, none⟩) 2 cap) 3 0 w7 := ⟨o1, o2, o3, o4, o5⟩
      have hne : w.heap.size + 1 + 1 ≠ ob := by have := HL1.out; omega
      obtain ⟨t1, t2, t3, t4, t5, t6⟩ := two_off w7 ob (.slice (some ⟨nb, 0, none⟩) 2 cap) (.int .u8 1) (.int .i64 0) 3 0 pb7 hOB
      have y6 := (t4 _ 0 hne).trans x6
      have y7 := (t4 _ 1 hne).trans x7
      have y8 := (t4 _ 2 hne).trans x8
      have z0 := (t5 ⟨w.heap.size + 1 + 1, 0, none⟩).trans h0
      have z1 := (t5 ⟨w.heap.size + 1 + 1, 1, none⟩).trans h1
      have z2 := (t5 ⟨w.heap.size + 1 + 1, 2, none⟩).trans h2
      have T4 := Lib.hid t4
      have T6 := Lib.hid (A7.out.bel.trans (t6 _ A7.out.ol))
      have T6s := Lib.hid ((t6 ob (Nat.le_refl _)).size)
      clear t4 t5 t6 o1 o2 o3 o4 o5 f0 f1 f2 h0 h1 h2 x1 x2 x3 x4 x5 x6 x7 x8 x9 hOB
      generalize (w7.setCell ⟨ob, 1, none⟩ (.int .u8 1)).setCell ⟨ob, 2, none⟩ (.int .i64 0) = w8 at *
      go_wp2
      have hfar := A7.out.far nb rfl
      have hcell : w7.cell? ⟨nb, 3, none⟩ = some (.bool true) := by
        have := A7.out.own.cells (g := nb) rfl 3 (.bool true) rfl
        rwa [Addr.add_lit, Nat.zero_add] at this
      have hnlt := (A7.out.own.lt nb rfl).2
      obtain ⟨u1, u2, u3, u4, u5⟩ := three_set w8 (w.heap.size + 1 + 1) (.slice (some ⟨nb, 0, none⟩) 2 cap) (.int .u8 1) (.int .i64 0) _ _ _ y6 y7 y8
      have hfin := (u4 nb 3 hfar.2.2.2.1).trans ((T4.out nb 3 hfar.1).trans hcell)
      have hbel := T6.out.trans (u5 w.heap.size (by omega))
      have hs9 := (u5 0 (Nat.zero_le _)).size
      clear u4 u5 y6 y7 y8 z0 z1 z2
      generalize ((w8.setCell ⟨w.heap.size + 1 + 1, 0, none⟩ (.slice (some ⟨nb, 0, none⟩) 2 cap)).setCell ⟨w.heap.size + 1 + 1, 1, none⟩ (.int .u8 1)).setCell ⟨w.heap.size + 1 + 1, 2, none⟩ (.int .i64 0) = w9 at *
      have hn9 : nb < w9.heap.size := Nat.lt_of_lt_of_le hnlt (Nat.le_trans T6s.out hs9)
      refine bodyPost_ret (by simp [results, Try.results5, go_sem, u1, u2, u3]; try rfl) rfl ?_
      exact ⟨nb, cap, rfl, hfin, hn9, hbel⟩
end Go.Proofs.Ytinlachbnflpoaa
