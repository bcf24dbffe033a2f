/-
  TopAngles's boxes.
-/
import Derived.Test.YtacpakmglmfgnaaTt
namespace Go.Proofs.Ytacpakmglmfgnaa
open Go.RowKit Go.Shelf

/-- The boxes with the angle's box. -/
structure TS (g q : Nat) (den d : Int) (s t : ByteArray) (W : World) : Prop where
  tb : TB g den d W
  gt : g + 2 < q
  lt : q < W.heap.size
  c0 : W.cell? ⟨q, 0, none⟩ = some (.bool false)
  c1 : W.cell? ⟨q, 1, none⟩ = some (.string s)
  c2 : W.cell? ⟨q, 2, none⟩ = some (.string t)
theorem TS.up {g q n : Nat} {den d : Int} {s t : ByteArray} {w w1 : World} (h : TS g q den d s t w) (hq : q < n) (B : Below n w w1) : TS g q den d s t w1 :=
  ⟨h.tb.up (Nat.lt_trans h.gt hq) B, h.gt, Nat.lt_of_lt_of_le h.lt B.size, (B.cell (p := ⟨q, 0, none⟩) hq).trans h.c0, (B.cell (p := ⟨q, 1, none⟩) hq).trans h.c1, (B.cell (p := ⟨q, 2, none⟩) hq).trans h.c2⟩
theorem TS.drewN {g q : Nat} {den d : Int} {s t : ByteArray} {w : World} (h : TS g q den d s t w) (n : Nat) : TS g q den d s t (w.drewN n) := h.up h.lt (below_drewN (Below.refl _ _) n)
theorem TS.on {g q : Nat} {den d : Int} {s t : ByteArray} {w w1 : World} (h : TS g q den d s t w) (B : Below w.heap.size w w1) : TS g q den d s t w1 := h.up h.lt B
theorem TS.make {g q : Nat} {den d : Int} {w : World} (h : TB g den d w) (hr : Rec3 w q) (hq : g + 2 < q) (s t : ByteArray) :
    TS g q den d s t (((w.setCell ⟨q, 0, none⟩ (.bool false)).setCell ⟨q, 1, none⟩ (.string s)).setCell ⟨q, 2, none⟩ (.string t)) ∧ Below q w (((w.setCell ⟨q, 0, none⟩ (.bool false)).setCell ⟨q, 1, none⟩ (.string s)).setCell ⟨q, 2, none⟩ (.string t)) := by
  obtain ⟨o0, p0⟩ := hr.r.c0
  obtain ⟨o1, p1⟩ := hr.r.c1
  obtain ⟨o2, p2⟩ := hr.c2
  obtain ⟨a0, a1, a2, hB⟩ := three_set w q (.bool false) (.string s) (.string t) _ _ _ p0 p1 p2
  have hb := hB q (Nat.le_refl _)
  exact ⟨⟨h.up hq hb, hq, Nat.lt_of_lt_of_le hr.r.lt hb.size, a0, a1, a2⟩, hb⟩
/-- The boxes with the count's box and the number's box. -/
structure TX (g q p : Nat) (den d : Int) (s t : ByteArray) (kv xv : Int) (W : World) : Prop where
  ts : TS g q den d s t W
  gp : q < p
  lt : p + 1 < W.heap.size
  k0 : W.cell? ⟨p, 0, none⟩ = some (.int .i64 kv)
  x0 : W.cell? ⟨p + 1, 0, none⟩ = some (.int .i64 xv)
  fk : W.frozen? ⟨p, 0, none⟩ = false
  fx : W.frozen? ⟨p + 1, 0, none⟩ = false
theorem TX.up {g q p n : Nat} {den d : Int} {s t : ByteArray} {kv xv : Int} {w w1 : World} (h : TX g q p den d s t kv xv w) (hq : p + 1 < n) (B : Below n w w1) : TX g q p den d s t kv xv w1 :=
  ⟨h.ts.up (by have := h.gp; omega) B, h.gp, Nat.lt_of_lt_of_le h.lt B.size, (B.cell (p := ⟨p, 0, none⟩) (by show p < n; omega)).trans h.k0, (B.cell (p := ⟨p + 1, 0, none⟩) hq).trans h.x0, (B.frozen (p := ⟨p, 0, none⟩) (by show p < n; omega)).trans h.fk, (B.frozen (p := ⟨p + 1, 0, none⟩) hq).trans h.fx⟩
theorem TX.on {g q p : Nat} {den d : Int} {s t : ByteArray} {kv xv : Int} {w w1 : World} (h : TX g q p den d s t kv xv w) (B : Below w.heap.size w w1) : TX g q p den d s t kv xv w1 := h.up h.lt B
theorem TX.drewN {g q p : Nat} {den d : Int} {s t : ByteArray} {kv xv : Int} {w : World} (h : TX g q p den d s t kv xv w) (n : Nat) : TX g q p den d s t kv xv (w.drewN n) := h.up h.lt (below_drewN (Below.refl _ _) n)
theorem TX.new {g q : Nat} {den d : Int} {s t : ByteArray} {w : World} (h : TS g q den d s t w) (kv xv : Int) :
    TX g q w.heap.size den d s t kv xv ((w.alloc (.cells #[.int .i64 kv] 3)).alloc (.cells #[.int .i64 xv] 3)) ∧ Below w.heap.size w ((w.alloc (.cells #[.int .i64 kv] 3)).alloc (.cells #[.int .i64 xv] 3)) := by
  have hB := (alloc_below w (.cells #[.int .i64 kv] 3)).on (alloc_below _ (.cells #[.int .i64 xv] 3))
  have s1 : (w.alloc (.cells #[.int .i64 kv] 3)).heap.size = w.heap.size + 1 := World.size_alloc _ _
  have c0 := one_new w (.int .i64 kv) 3
  have c1 := one_new (w.alloc (.cells #[.int .i64 kv] 3)) (.int .i64 xv) 3
  have f0 := newf w #[.int .i64 kv] 3 _ 0 rfl
  have f1 := newf (w.alloc (.cells #[.int .i64 kv] 3)) #[.int .i64 xv] 3 _ 0 rfl
  rw [s1] at c1 f1
  exact ⟨⟨h.on hB, h.lt, by rw [World.size_alloc, s1]; omega, ((alloc_below _ _).cell (p := ⟨w.heap.size, 0, none⟩) (by rw [s1]; show w.heap.size < w.heap.size + 1; omega)).trans c0, c1,
    ((alloc_below _ _).frozen (p := ⟨w.heap.size, 0, none⟩) (by rw [s1]; show w.heap.size < w.heap.size + 1; omega)).trans f0, f1⟩, hB⟩
/-- One round's stores. -/
theorem TX.step {g q p : Nat} {den d : Int} {s t : ByteArray} {kv xv : Int} {w : World} (h : TX g q p den d s t kv xv w) (kv' xv' : Int) :
    TX g q p den d s t kv' xv' ((w.setCell ⟨p + 1, 0, none⟩ (.int .i64 xv')).setCell ⟨p, 0, none⟩ (.int .i64 kv')) ∧ Below p w ((w.setCell ⟨p + 1, 0, none⟩ (.int .i64 xv')).setCell ⟨p, 0, none⟩ (.int .i64 kv')) ∧
    ∀ j, p + 2 ≤ j → ((w.setCell ⟨p + 1, 0, none⟩ (.int .i64 xv')).setCell ⟨p, 0, none⟩ (.int .i64 kv')).heap[j]? = w.heap[j]? := by
  have hB : Below p w ((w.setCell ⟨p + 1, 0, none⟩ (.int .i64 xv')).setCell ⟨p, 0, none⟩ (.int .i64 kv')) :=
    ((Below.refl p w).setCell (p := ⟨p + 1, 0, none⟩) (by show p ≤ p + 1; omega) _).setCell (p := ⟨p, 0, none⟩) (Nat.le_refl _) _
  have e1 : (w.setCell ⟨p + 1, 0, none⟩ (.int .i64 xv')).cell? ⟨p, 0, none⟩ = some (.int .i64 kv) :=
    (World.cell?_of_block (Below.heap_setCell w ⟨p + 1, 0, none⟩ _ p (by show p ≠ p + 1; omega))).trans h.k0
  have e2 : ((w.setCell ⟨p + 1, 0, none⟩ (.int .i64 xv')).setCell ⟨p, 0, none⟩ (.int .i64 kv')).cell? ⟨p + 1, 0, none⟩ = some (.int .i64 xv') :=
    (World.cell?_of_block (Below.heap_setCell _ ⟨p, 0, none⟩ _ (p + 1) (by show p + 1 ≠ p; omega))).trans (World.cell?_setCell_same _ _ _ h.x0)
  refine ⟨⟨h.ts.up h.gp hB, h.gp, Nat.lt_of_lt_of_le h.lt hB.size, World.cell?_setCell_same _ _ _ e1, e2, ?_, ?_⟩, hB, fun j hj => ?_⟩
  · rw [World.frozen?_setCell, World.frozen?_setCell]; exact h.fk
  · rw [World.frozen?_setCell, World.frozen?_setCell]; exact h.fx
  · rw [Below.heap_setCell _ ⟨p, 0, none⟩ _ _ (by show j ≠ p; omega), Below.heap_setCell _ ⟨p + 1, 0, none⟩ _ _ (by show j ≠ p + 1; omega)]
/-- Blocks that lie as they lay ahead of the loop's own. -/
theorem TX.kf {g q p lo : Nat} {den d : Int} {s t : ByteArray} {kv xv : Int} {A B : World} (h : TX g q p den d s t kv xv A) (k : KF lo A B) (hl : lo ≤ g) : TX g q p den d s t kv xv B := by
  have h1 := h.gp
  have h2 := h.ts.gt
  obtain ⟨o, ho⟩ := h.ts.tb.c
  exact ⟨⟨⟨Nat.lt_of_lt_of_le h.ts.tb.lt k.size, k.cell hl h.ts.tb.a, k.cell (by omega) h.ts.tb.b, ⟨o, k.cell (by omega) ho⟩, (k.frozen (by omega) ho).trans h.ts.tb.f⟩, h2, Nat.lt_of_lt_of_le h.ts.lt k.size, k.cell (by omega) h.ts.c0, k.cell (by omega) h.ts.c1, k.cell (by omega) h.ts.c2⟩,
    h1, Nat.lt_of_lt_of_le h.lt k.size, k.cell (by omega) h.k0, k.cell (by omega) h.x0, (k.frozen (by omega) h.k0).trans h.fk, (k.frozen (by omega) h.x0).trans h.fx⟩
/-- A fraction's box. -/
structure RX (b : Nat) (s t : ByteArray) (W : World) : Prop where
  lt : b < W.heap.size
  c0 : W.cell? ⟨b, 0, none⟩ = some (.bool false)
  c1 : W.cell? ⟨b, 1, none⟩ = some (.string s)
  c2 : W.cell? ⟨b, 2, none⟩ = some (.string t)
theorem RX.on {b : Nat} {s t : ByteArray} {w w1 : World} (h : RX b s t w) (B : Below w.heap.size w w1) : RX b s t w1 :=
  ⟨Nat.lt_of_lt_of_le h.lt B.size, (B.cell (p := ⟨b, 0, none⟩) h.lt).trans h.c0, (B.cell (p := ⟨b, 1, none⟩) h.lt).trans h.c1, (B.cell (p := ⟨b, 2, none⟩) h.lt).trans h.c2⟩
theorem RX.new (w : World) (s t : ByteArray) (e : TypeId) : RX w.heap.size s t (w.alloc (.cells #[.bool false, .string s, .string t] e)) := by
  have c : ∀ i, (w.alloc (.cells #[.bool false, .string s, .string t] e)).cell? ⟨w.heap.size, i, none⟩ = #[.bool false, .string s, .string t][i]? := fun i => World.cell?_alloc_at _ _ _ _ rfl
  exact ⟨by simp, c 0, c 1, c 2⟩
/-- Behind the loop: its record of what is put off, too. -/
structure TE (g q p D : Nat) (den d : Int) (s t : ByteArray) (kv xv : Int) (W : World) : Prop where
  x : TX g q p den d s t kv xv W
  lt : D < W.heap.size
  gd : p + 1 < D
  dd : W.heap[D]? = some (.deferred (some []))
theorem TE.on {g q p D : Nat} {den d : Int} {s t : ByteArray} {kv xv : Int} {w w1 : World} (h : TE g q p D den d s t kv xv w) (B : Below w.heap.size w w1) : TE g q p D den d s t kv xv w1 :=
  ⟨h.x.on B, Nat.lt_of_lt_of_le h.lt B.size, h.gd, (B.block _ h.lt).trans h.dd⟩
theorem TE.drewN {g q p D : Nat} {den d : Int} {s t : ByteArray} {kv xv : Int} {w : World} (h : TE g q p D den d s t kv xv w) (n : Nat) : TE g q p D den d s t kv xv (w.drewN n) := h.on (below_drewN (Below.refl _ _) n)
/-- The answer's store, and what is put off taken away. -/
theorem TE.done {g q p D : Nat} {den d : Int} {s t : ByteArray} {kv xv : Int} {w : World} (h : TE g q p D den d s t kv xv w) (v : Value) :
    (w.setCell ⟨g + 2, 0, none⟩ v).heap[D]? = some (.deferred (some [])) ∧ ((w.setCell ⟨g + 2, 0, none⟩ v).putObj D (.deferred none)).cell? ⟨g + 2, 0, none⟩ = some v ∧ Below g w ((w.setCell ⟨g + 2, 0, none⟩ v).putObj D (.deferred none)) := by
  have h1 := h.x.gp
  have h2 := h.x.ts.gt
  have h3 := h.gd
  obtain ⟨o, ho⟩ := h.x.ts.tb.c
  have hd : (w.setCell ⟨g + 2, 0, none⟩ v).heap[D]? = some (.deferred (some [])) := (Below.heap_setCell w ⟨g + 2, 0, none⟩ v D (by show D ≠ g + 2; omega)).trans h.dd
  have hb := below_putObj (n₀ := D) (.deferred none) (Nat.le_refl _) (lt_of_obj hd)
  exact ⟨hd, (hb.cell (p := ⟨g + 2, 0, none⟩) (by show g + 2 < D; omega)).trans (World.cell?_setCell_same _ _ _ ho), ((Below.refl g w).setCell (p := ⟨g + 2, 0, none⟩) (by show g ≤ g + 2; omega) v).trans (hb.mono (by omega))⟩
end Go.Proofs.Ytacpakmglmfgnaa
