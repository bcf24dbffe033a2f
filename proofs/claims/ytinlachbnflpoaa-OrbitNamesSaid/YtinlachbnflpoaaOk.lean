/-
  The walk of Last at the second example.
-/
import Derived.Test.YtinlachbnflpoaaOj
namespace Go.Proofs.Ytinlachbnflpoaa
open Go.RowKit Go.Shelf
attribute [local go_sem] Oper.semAt_some

/-- Last's boxes. -/
structure LaM (g : Nat) (m0 m1 p0 p1 : Value) (w : World) : Prop where
  lt : g + 5 < w.heap.size
  a : w.cell? ⟨g, 0, none⟩ = some m0
  b : w.cell? ⟨g, 1, none⟩ = some m1
  c : w.cell? ⟨g + 1, 0, none⟩ = some p0
  d : w.cell? ⟨g + 1, 1, none⟩ = some p1
  s : w.cell? ⟨g + 2, 0, none⟩ = some (.int .i64 5)
  r0 : w.cell? ⟨g + 3, 0, none⟩ = some (.complex .f64 0 0)
  r1 : w.cell? ⟨g + 3, 1, none⟩ = some (.bool false)
  r2 : w.cell? ⟨g + 4, 0, none⟩ = some (.bool false)
  r3 : w.cell? ⟨g + 5, 0, none⟩ = some (.int .i64 0)
  f0 : ∀ i, w.frozen? ⟨g + 3, i, none⟩ = false
  f2 : ∀ i, w.frozen? ⟨g + 4, i, none⟩ = false
  f3 : ∀ i, w.frozen? ⟨g + 5, i, none⟩ = false
theorem LaM.up {g n : Nat} {m0 m1 p0 p1 : Value} {w w1 : World} (h : LaM g m0 m1 p0 p1 w) (hg : g + 5 < n) (B : Below n w w1) : LaM g m0 m1 p0 p1 w1 := by
  have l0 : g < n := by omega
  have l1 : g + 1 < n := by omega
  have l2 : g + 2 < n := by omega
  have l3 : g + 3 < n := by omega
  have l4 : g + 4 < n := by omega
  exact ⟨Nat.lt_of_lt_of_le h.lt B.size, (B.cell (p := ⟨g, 0, none⟩) l0).trans h.a, (B.cell (p := ⟨g, 1, none⟩) l0).trans h.b, (B.cell (p := ⟨g + 1, 0, none⟩) l1).trans h.c, (B.cell (p := ⟨g + 1, 1, none⟩) l1).trans h.d,
    (B.cell (p := ⟨g + 2, 0, none⟩) l2).trans h.s, (B.cell (p := ⟨g + 3, 0, none⟩) l3).trans h.r0, (B.cell (p := ⟨g + 3, 1, none⟩) l3).trans h.r1, (B.cell (p := ⟨g + 4, 0, none⟩) l4).trans h.r2, (B.cell (p := ⟨g + 5, 0, none⟩) hg).trans h.r3,
    fun i => (B.frozen (p := ⟨g + 3, i, none⟩) l3).trans (h.f0 i), fun i => (B.frozen (p := ⟨g + 4, i, none⟩) l4).trans (h.f2 i), fun i => (B.frozen (p := ⟨g + 5, i, none⟩) hg).trans (h.f3 i)⟩
theorem LaM.on {g : Nat} {m0 m1 p0 p1 : Value} {w w1 : World} (h : LaM g m0 m1 p0 p1 w) (B : Below w.heap.size w w1) : LaM g m0 m1 p0 p1 w1 := h.up h.lt B
def laW (w : World) (m0 m1 p0 p1 : Value) : World :=
  (((((w.alloc (.cells #[m0, m1] 27)).alloc (.cells #[p0, p1] 36)).alloc (.cells #[.int .i64 5] 3)).alloc (.cells #[.complex .f64 0 0, .bool false] 36)).alloc (.cells #[.bool false] 4)).alloc (.cells #[.int .i64 0] 32)
theorem nf (w : World) (cs : Array Value) (t : TypeId) (g i : Nat) (hg : g = w.heap.size) : (w.alloc (.cells cs t)).frozen? ⟨g, i, none⟩ = false := by
  subst hg
  first
    | exact World.frozen?_alloc_at _ _ _ _ rfl
    | (simp [World.frozen?, World.alloc])
theorem laM_new (w : World) (m0 m1 p0 p1 : Value) : LaM w.heap.size m0 m1 p0 p1 (laW w m0 m1 p0 p1) ∧ Below w.heap.size w (laW w m0 m1 p0 p1) := by
  unfold laW
  refine ⟨⟨by simp, ?_, ?_, ?_, ?_, ?_, ?_, ?_, ?_, ?_, ?_, ?_, ?_⟩, ((((((Below.refl _ _).alloced).alloced).alloced).alloced).alloced).alloced⟩
  · rw [World.cell?_alloc_lt _ _ _ (by simp only [World.size_alloc]; omega), World.cell?_alloc_lt _ _ _ (by simp only [World.size_alloc]; omega), World.cell?_alloc_lt _ _ _ (by simp only [World.size_alloc]; omega), World.cell?_alloc_lt _ _ _ (by simp only [World.size_alloc]; omega), World.cell?_alloc_lt _ _ _ (by simp only [World.size_alloc]; omega), World.cell?_alloc_at _ _ _ _ (by simp)]; rfl
  · rw [World.cell?_alloc_lt _ _ _ (by simp only [World.size_alloc]; omega), World.cell?_alloc_lt _ _ _ (by simp only [World.size_alloc]; omega), World.cell?_alloc_lt _ _ _ (by simp only [World.size_alloc]; omega), World.cell?_alloc_lt _ _ _ (by simp only [World.size_alloc]; omega), World.cell?_alloc_lt _ _ _ (by simp only [World.size_alloc]; omega), World.cell?_alloc_at _ _ _ _ (by simp)]; rfl
  · rw [World.cell?_alloc_lt _ _ _ (by simp only [World.size_alloc]; omega), World.cell?_alloc_lt _ _ _ (by simp only [World.size_alloc]; omega), World.cell?_alloc_lt _ _ _ (by simp only [World.size_alloc]; omega), World.cell?_alloc_lt _ _ _ (by simp only [World.size_alloc]; omega), World.cell?_alloc_at _ _ _ _ (by simp)]; rfl
  · rw [World.cell?_alloc_lt _ _ _ (by simp only [World.size_alloc]; omega), World.cell?_alloc_lt _ _ _ (by simp only [World.size_alloc]; omega), World.cell?_alloc_lt _ _ _ (by simp only [World.size_alloc]; omega), World.cell?_alloc_lt _ _ _ (by simp only [World.size_alloc]; omega), World.cell?_alloc_at _ _ _ _ (by simp)]; rfl
  · rw [World.cell?_alloc_lt _ _ _ (by simp only [World.size_alloc]; omega), World.cell?_alloc_lt _ _ _ (by simp only [World.size_alloc]; omega), World.cell?_alloc_lt _ _ _ (by simp only [World.size_alloc]; omega), World.cell?_alloc_at _ _ _ _ (by simp)]; rfl
  · rw [World.cell?_alloc_lt _ _ _ (by simp only [World.size_alloc]; omega), World.cell?_alloc_lt _ _ _ (by simp only [World.size_alloc]; omega), World.cell?_alloc_at _ _ _ _ (by simp)]; rfl
  · rw [World.cell?_alloc_lt _ _ _ (by simp only [World.size_alloc]; omega), World.cell?_alloc_lt _ _ _ (by simp only [World.size_alloc]; omega), World.cell?_alloc_at _ _ _ _ (by simp)]; rfl
  · rw [World.cell?_alloc_lt _ _ _ (by simp only [World.size_alloc]; omega), World.cell?_alloc_at _ _ _ _ (by simp)]; rfl
  · rw [World.cell?_alloc_at _ _ _ _ (by simp)]; rfl
  · intro i
    exact ((alloc_below _ _).frozen (p := ⟨w.heap.size + 3, i, none⟩) (by simp)).trans (((alloc_below _ _).frozen (p := ⟨w.heap.size + 3, i, none⟩) (by simp)).trans (nf _ _ _ _ _ (by simp)))
  · intro i
    exact ((alloc_below _ _).frozen (p := ⟨w.heap.size + 4, i, none⟩) (by simp)).trans (nf _ _ _ _ _ (by simp))
  · intro i
    exact nf _ _ _ _ _ (by simp)
/-- Last's answer. -/
structure LaR (g : Nat) (w : World) : Prop where
  r0 : w.cell? ⟨g + 3, 0, none⟩ = some (.complex .f64 (fw 5) 0)
  r1 : w.cell? ⟨g + 3, 1, none⟩ = some (.bool false)
  r2 : w.cell? ⟨g + 4, 0, none⟩ = some (.bool true)
  r3 : w.cell? ⟨g + 5, 0, none⟩ = some (.int .i64 0)
theorem LaR.up {g n : Nat} {w w1 : World} (h : LaR g w) (hg : g + 5 < n) (B : Below n w w1) : LaR g w1 :=
  ⟨(B.cell (p := ⟨g + 3, 0, none⟩) (by show g + 3 < n; omega)).trans h.r0, (B.cell (p := ⟨g + 3, 1, none⟩) (by show g + 3 < n; omega)).trans h.r1, (B.cell (p := ⟨g + 4, 0, none⟩) (by show g + 4 < n; omega)).trans h.r2, (B.cell (p := ⟨g + 5, 0, none⟩) hg).trans h.r3⟩
theorem LaR.kc {g : Nat} {A B : World} (h : LaR g A) (k : KC A B) : LaR g B := ⟨k.cell h.r0, k.cell h.r1, k.cell h.r2, k.cell h.r3⟩
/-- The stores of Last's answer. -/
def laS (g : Nat) (w : World) : World :=
  (((w.setCell ⟨g + 3, 0, none⟩ (.complex .f64 (fw 5) 0)).setCell ⟨g + 3, 1, none⟩ (.bool false)).setCell ⟨g + 4, 0, none⟩ (.bool true)).setCell ⟨g + 5, 0, none⟩ (.int .i64 0)
theorem cell_set_off (w : World) (a : Addr) (u : Value) (b i : Nat) (h : b ≠ a.block) : (w.setCell a u).cell? ⟨b, i, none⟩ = w.cell? ⟨b, i, none⟩ :=
  World.cell?_of_block (Below.heap_setCell w a u b h)
theorem laS_r {g : Nat} {m0 m1 p0 p1 : Value} {w : World} (h : LaM g m0 m1 p0 p1 w) : LaR g (laS g w) ∧ w.heap.size ≤ (laS g w).heap.size ∧ (∀ j, g + 6 ≤ j → (laS g w).heap[j]? = w.heap[j]?) ∧ Below g w (laS g w) := by
  have hb : Below g w (laS g w) := ((((Below.refl g w).setCell (p := ⟨g + 3, 0, none⟩) (by show g ≤ g + 3; omega) _).setCell (p := ⟨g + 3, 1, none⟩) (by show g ≤ g + 3; omega) _).setCell (p := ⟨g + 4, 0, none⟩) (by show g ≤ g + 4; omega) _).setCell (p := ⟨g + 5, 0, none⟩) (by show g ≤ g + 5; omega) _
  refine ⟨⟨?_, ?_, ?_, ?_⟩, hb.size, ?_, hb⟩
  · unfold laS
    rw [cell_set_off _ _ _ _ _ (by show g + 3 ≠ g + 5; omega), cell_set_off _ _ _ _ _ (by show g + 3 ≠ g + 4; omega), cell_off _ _ _ _ _ (by omega)]
    exact World.cell?_setCell_same _ _ _ h.r0
  · unfold laS
    rw [cell_set_off _ _ _ _ _ (by show g + 3 ≠ g + 5; omega), cell_set_off _ _ _ _ _ (by show g + 3 ≠ g + 4; omega)]
    exact World.cell?_setCell_same _ _ _ (by rw [cell_off _ _ _ _ _ (by omega)]; exact h.r1)
  · unfold laS
    rw [cell_set_off _ _ _ _ _ (by show g + 4 ≠ g + 5; omega)]
    exact World.cell?_setCell_same _ _ _ (by rw [cell_set_off _ _ _ _ _ (by show g + 4 ≠ g + 3; omega), cell_set_off _ _ _ _ _ (by show g + 4 ≠ g + 3; omega)]; exact h.r2)
  · unfold laS
    exact World.cell?_setCell_same _ _ _ (by rw [cell_set_off _ _ _ _ _ (by show g + 5 ≠ g + 4; omega), cell_set_off _ _ _ _ _ (by show g + 5 ≠ g + 3; omega), cell_set_off _ _ _ _ _ (by show g + 5 ≠ g + 3; omega)]; exact h.r3)
  · intro j hj
    unfold laS
    rw [Below.heap_setCell _ _ _ _ (by show j ≠ g + 5; omega), Below.heap_setCell _ _ _ _ (by show j ≠ g + 4; omega), Below.heap_setCell _ _ _ _ (by show j ≠ g + 3; omega), Below.heap_setCell _ _ _ _ (by show j ≠ g + 3; omega)]
/-- The frame behind the assignment to the loop's variables. -/
def laA (b1 c1 b2 c2 g m k Bx : Nat) : Act :=
  { tmps := #[.agg #[.slice (some ⟨b1, 0, none⟩) 2 c1, .slice (some ⟨b2, 0, none⟩) 1 c2], .agg #[.complex .f64 0 0, .bool false], .int .i64 5, .pointer (some ⟨g, 0, none⟩), .pointer (some ⟨g + 1, 0, none⟩),
      .pointer (some ⟨g + 1 + 1, 0, none⟩), .pointer (some ⟨g + 1 + 1 + 1, 0, none⟩), .pointer (some ⟨g + 1 + 1 + 1 + 1, 0, none⟩), .pointer (some ⟨g + 1 + 1 + 1 + 1 + 1, 0, none⟩), .int .i64 k, .pointer (some ⟨Bx, 0, none⟩),
      .agg #[.slice (some ⟨b1, 0, none⟩) 2 c1, .slice (some ⟨b2, 0, none⟩) 1 c2], .agg #[.complex .f64 0 0, .bool false], .bool true, .bool false, .bool false, .int .i64 5, .bool false, .bool false, .bool false, .int .i64 5, .bool false, .bool false, undef,
      .agg #[.slice (some ⟨b1, 0, none⟩) 2 c1, .slice (some ⟨b2, 0, none⟩) 1 c2], .agg #[.complex .f64 0 0, .bool false], .func (.func 17) #[] #[.pointer (some ⟨m, 0, none⟩), .pointer (some ⟨m + 1, 0, none⟩)],
      .int .i64 k, .agg #[.complex .f64 (fw k) 0, .bool false], undef, undef, undef, undef, undef], defers := [] }
set_option maxRecDepth 100000 in
set_option maxHeartbeats 1000000 in
theorem last_in (n : Nat) (hn : 3 ≤ n) (b1 c1 b2 c2 : Nat) (w : World) (h : MapOk w b1 c1 (re [4607182418800017408, 4607182418800017408]) b2 c2 (re [4607182418800017408])) :
    CallsIn Fence.wide n Try.prog 6 #[.agg #[.slice (some ⟨b1, 0, none⟩) 2 c1, .slice (some ⟨b2, 0, none⟩) 1 c2], .agg #[.complex .f64 0 0, .bool false], .int .i64 5] w fun e w' =>
      e = .returned (.tuple #[.agg #[.complex .f64 (fw 5) 0, .bool false], .bool true, .int .i64 0]) ∧ Below w.heap.size w w' := by
  obtain ⟨hm0, hb0⟩ := laM_new w (.slice (some ⟨b1, 0, none⟩) 2 c1) (.slice (some ⟨b2, 0, none⟩) 1 c2) (.complex .f64 0 0) (.bool false)
  have HM0 := Lib.hid hm0
  have HB0 := Lib.hid hb0
  have hmay := Lib.hid (may_any _ (h.below hb0) fi_zero)
  have HH := Lib.hid (h.below hb0)
  have HW : Hid (laW w (.slice (some ⟨b1, 0, none⟩) 2 c1) (.slice (some ⟨b2, 0, none⟩) 1 c2) (.complex .f64 0 0) (.bool false) = _) := rfl
  unfold laW at HW
  clear h hb0
  generalize hV : laW w (.slice (some ⟨b1, 0, none⟩) 2 c1) (.slice (some ⟨b2, 0, none⟩) 1 c2) (.complex .f64 0 0) (.bool false) = V at *
  obtain ⟨hlt, x1, x2, x3, x4, x5, x6, x7, x8, x9, x10, x11, x12⟩ := hm0
  refine callsIn_of_wp_marks Try.func6 rfl trivial ?_ rfl
  simp only [Try.ntmps6, List.size_toArray, List.length_cons, List.length_nil, Nat.reduceAdd, Nat.reduceSub, Array.replicate_succ, Array.replicate_zero, List.push_toArray, List.append_toArray, List.nil_append, List.cons_append]
  unfold laW at hV
  have h1n : 1 ≤ n := by omega
  gi_wp2_with (first | (refine ⟨trivial, ?_⟩; gi_at_call 7; refine (callsIn_wide.2 hmay.out).mono ?_; rintro e w1 ⟨rfl, B1⟩; have M1 := Lib.hid (HM0.out.on B1); have BB1 := Lib.hid (HB0.out.on B1); clear hlt x1 x2 x3 x4 x5 x6 x7 x8 x9 x10 x11 x12; obtain ⟨hlt, x1, x2, x3, x4, x5, x6, x7, x8, x9, x10, x11, x12⟩ := M1.out) | (refine ⟨trivial, ?_⟩; gi_at_call 10; refine (each_in _ _ _ _ _ _).mono ?_; rintro e w2 ⟨rfl, rfl⟩))
  have M2 := M1.out.on (((Below.refl w1.heap.size w1).alloced (o := .cells #[.slice (some ⟨b1, 0, none⟩) 2 c1, .slice (some ⟨b2, 0, none⟩) 1 c2] 27)).alloced (o := .cells #[.complex .f64 0 0, .bool false] 36))
  have BB2 := (BB1.out.alloced (o := .cells #[.slice (some ⟨b1, 0, none⟩) 2 c1, .slice (some ⟨b2, 0, none⟩) 1 c2] 27)).alloced (o := .cells #[.complex .f64 0 0, .bool false] 36)
  have HE : EaM w1.heap.size (w1.heap.size + 1) b1 c1 b2 c2 0 ((w1.alloc (.cells #[.slice (some ⟨b1, 0, none⟩) 2 c1, .slice (some ⟨b2, 0, none⟩) 1 c2] 27)).alloc (.cells #[.complex .f64 0 0, .bool false] 36)) := by
    have hMM := ((HH.out.below B1).below (alloc_below w1 (.cells #[.slice (some ⟨b1, 0, none⟩) 2 c1, .slice (some ⟨b2, 0, none⟩) 1 c2] 27))).below (alloc_below _ (.cells #[.complex .f64 0 0, .bool false] 36))
    have hz : (w1.alloc (.cells #[.slice (some ⟨b1, 0, none⟩) 2 c1, .slice (some ⟨b2, 0, none⟩) 1 c2] 27)).heap.size = w1.heap.size + 1 := by simp
    refine ⟨hMM, by simp; omega, by simp, ?_, ?_, ?_, ?_, ?_⟩
    · exact ((alloc_below _ _).cell (p := ⟨w1.heap.size, 0, none⟩) (by simp)).trans (new0 w1 27 _ _)
    · exact ((alloc_below _ _).cell (p := ⟨w1.heap.size, 1, none⟩) (by simp)).trans (new1 w1 27 _ _)
    · rw [← hz]; exact new0 _ 36 _ _
    · rw [← hz]; exact new1 _ 36 _ _
    · intro i; rw [← hz]; exact newf _ 36 _ _ i
  have hws : w1.heap.size + 2 = ((w1.alloc (.cells #[.slice (some ⟨b1, 0, none⟩) 2 c1, .slice (some ⟨b2, 0, none⟩) 1 c2] 27)).alloc (.cells #[.complex .f64 0 0, .bool false] 36)).heap.size := by simp
  clear hlt x1 x2 x3 x4 x5 x6 x7 x8 x9 x10 x11 x12 M1 BB1 HH HM0 HB0 hmay HW
  generalize (w1.alloc (.cells #[.slice (some ⟨b1, 0, none⟩) 2 c1, .slice (some ⟨b2, 0, none⟩) 1 c2] 27)).alloc (.cells #[.complex .f64 0 0, .bool false] 36) = w2 at *
  have hw1 : w.heap.size + 5 < w2.heap.size := M2.lt
  refine range_counts (gf := 17) (lb := #[.pointer (some ⟨w1.heap.size, 0, none⟩), .pointer (some ⟨w1.heap.size + 1, 0, none⟩)]) h1n rfl (enters_of Try.func17 (by kernel_rfl) rfl)
    (fun k => #[.int .i64 (k : Int), .agg #[.complex .f64 (fw k) 0, .bool false]]) (fun _ => rfl) ?seq
    (fun W => LaM w.heap.size (.slice (some ⟨b1, 0, none⟩) 2 c1) (.slice (some ⟨b2, 0, none⟩) 1 c2) (.complex .f64 0 0) (.bool false) W ∧ Below w.heap.size w W)
    (fun W => LaR w.heap.size W ∧ Below w.heap.size w W) ?hI ?hIx ⟨M2, BB2⟩
    (fun k a' W => ∃ Bx, w.heap.size + 6 ≤ Bx ∧ W.cell? ⟨Bx, 0, none⟩ = some (.complex .f64 (fw k) 0) ∧ W.cell? ⟨Bx, 1, none⟩ = some (.bool false) ∧ a' = laA b1 c1 b2 c2 w.heap.size w1.heap.size k Bx) ?hAx ?assign ?body ?stop
  case seq =>
    rintro l J Jx W hB hab hY h0
    exact each1_in (n - 1) (by omega) l w1.heap.size (w1.heap.size + 1) b1 c1 b2 c2 J Jx W hab hY (HE.on hB) h0
  case hI =>
    rintro A B hB ⟨ha, hb⟩
    exact ⟨ha.up hw1 hB, hb.trans (hB.mono (by omega))⟩
  case hIx =>
    rintro A B hB ⟨ha, hb⟩
    exact ⟨ha.up hw1 hB, hb.trans (hB.mono (by omega))⟩
  case hAx =>
    rintro k a' A B hk ⟨Bx, h1, h2, h3, h4⟩
    exact ⟨Bx, h1, hk.cell h2, hk.cell h3, h4⟩
  case assign =>
    rintro l k W K ⟨hl, hb⟩ hK
    gi_wp2
    exact hK _ _ (alloc_below _ _) ⟨W.heap.size, by have := hl.lt; omega, new0 _ _ _ _, new1 _ _ _ _, rfl⟩
  case body =>
    rintro l k a' W hk5 hsz ⟨hl, hb⟩ ⟨Bx, h1, h2, h3, rfl⟩
    have HL := Lib.hid hl
    have HB := Lib.hid hb
    have HS := Lib.hid hsz
    clear hb hsz hV hws HE M2 BB2 B1
    obtain ⟨hlt, x1, x2, x3, x4, x5, x6, x7, x8, x9, x10, x11, x12⟩ := hl
    unfold laA
    by_cases hk : k = 5
    · subst hk
      have y1 := x10 0
      have y2 := x10 1
      have y3 := x11 0
      have y4 := x12 0
      clear x10 x11 x12
      gi_wp2
      obtain ⟨s1, s2, s3, s4⟩ := laS_r HL.out
      exact ⟨⟨s1, HB.out.trans s4⟩, s2, fun j hj hj2 => s3 j (by omega)⟩
    · have hk' : ¬ (k : Int) = 5 := by omega
      have hk2 : ((k : Int) == 5) = false := by rw [beq_eq_false_iff_ne]; exact hk'
      clear hk
      gi_wp2
      exact ⟨by omega, Below.refl _ _⟩
  case stop =>
    rintro W hsz ⟨hr, hb⟩ hd
    have hbp := below_putObj (n₀ := w2.heap.size) (.deferred none) (Nat.le_refl _) hsz
    have HR := hr.up hw1 hbp
    have HB := Lib.hid (hb.trans (hbp.mono (show w.heap.size ≤ w2.heap.size by omega)))
    clear hr hb hbp
    gi_wp2
    refine ⟨by simp, .inl ⟨_, _, rfl, run_takeDeferred hd, ?_⟩⟩
    generalize W.putObj w2.heap.size (.deferred none) = W9 at *
    obtain ⟨x1, x2, x3, x4⟩ := HR
    exact ⟨_, by simp [results, Try.results6, go_sem, x1, x2, x3, x4]; try rfl, rfl, HB.out⟩
end Go.Proofs.Ytinlachbnflpoaa
