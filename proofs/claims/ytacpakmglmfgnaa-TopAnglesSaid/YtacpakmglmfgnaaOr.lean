/-
  The plain laws of a range over a function that runs to its end.
-/
import Derived.RangeFuncNested
import Derived.RangeFuncBound
import Derived.RangeFuncCalls
import Derived.RangeFuncLeaves
import Derived.Shelf.Abstract
import Derived.Shelf.RegionOpen
import Derived.WalkKit
import Derived.OwnWalkIn
import Derived.TacticsInMore
import Derived.LoopNIn
import Derived.LoopIn
import Derived.Sort.LoopGhostIn
import Derived.Test.YtacpakmglmfgnaaTf
namespace Go.Proofs.Ytacpakmglmfgnaa
open Go.RowKit Go.Shelf

theorem not_cell_of_loop {W : World} {l : Nat} {r : Loop} (h : W.heap[l]? = some (.loop r)) (i : Nat) (v : Value) : W.cell? ⟨l, i, none⟩ ≠ some v := by
  simp [World.cell?, h]
theorem lt_of_cell {W : World} {k i : Nat} {v : Value} (hc : W.cell? ⟨k, i, none⟩ = some v) : k < W.heap.size := by
  cases h : W.heap[k]? with
  | none => simp [World.cell?, h] at hc
  | some o => exact (Array.getElem?_eq_some_iff.1 h).1
theorem below_putObj {n₀ : Nat} {W : World} {l : Nat} (o : Obj) (hl : n₀ ≤ l) (h : l < W.heap.size) : Below n₀ W (W.putObj l o) :=
  (Below.refl n₀ W).grown (grownBy_putObj' W l o) (by omega) (fun k e => by cases e; omega)
theorem lt_of_obj {W : World} {l : Nat} {o : Obj} (h : W.heap[l]? = some o) : l < W.heap.size := (Array.getElem?_eq_some_iff.1 h).1
/-- Blocks from lo on, in which something may be read, lie as they lay. -/
structure KF (lo : Nat) (A B : World) : Prop where
  size : A.heap.size ≤ B.heap.size
  block : ∀ k i v, lo ≤ k → A.cell? ⟨k, i, none⟩ = some v → B.heap[k]? = A.heap[k]?
theorem KF.cell {lo : Nat} {A B : World} (h : KF lo A B) {k i : Nat} {v : Value} (hk : lo ≤ k) (hc : A.cell? ⟨k, i, none⟩ = some v) : B.cell? ⟨k, i, none⟩ = some v :=
  (World.cell?_of_block (h.block k i v hk hc)).trans hc
theorem KF.frozen {lo : Nat} {A B : World} (h : KF lo A B) {k i j : Nat} {v : Value} (hk : lo ≤ k) (hc : A.cell? ⟨k, i, none⟩ = some v) : B.frozen? ⟨k, j, none⟩ = A.frozen? ⟨k, j, none⟩ :=
  World.frozen?_of_block (h.block k i v hk hc)
theorem KF.trans {lo : Nat} {A B C : World} (h : KF lo A B) (k : KF lo B C) : KF lo A C :=
  ⟨Nat.le_trans h.size k.size, fun b i v hb hc => (k.block b i v hb (h.cell hb hc)).trans (h.block b i v hb hc)⟩
theorem kf_putObj {lo : Nat} {W : World} {l : Nat} {r : Loop} (o : Obj) (h : W.heap[l]? = some (.loop r)) : KF lo W (W.putObj l o) := by
  refine ⟨by simp, fun k i v _ hc => World.putObj_heap_other ?_⟩
  rintro rfl
  exact not_cell_of_loop h i v hc
theorem kf_below {lo : Nat} {A B : World} (h : Below A.heap.size A B) : KF lo A B :=
  ⟨h.size, fun k _ _ _ hc => h.block k (lt_of_cell hc)⟩
/-- How a round's body is left: it goes on, having turned nothing that lies from lo on. -/
def runPost (lo : Nat) (I : World → Prop) (W : World) : Exit → Act → World → Prop
  | .normal, _, W' => I W' ∧ W.heap.size ≤ W'.heap.size ∧ ∀ j, lo ≤ j → j < W.heap.size → W'.heap[j]? = W.heap[j]?
  | _, _, _ => False
set_option maxHeartbeats 1000000 in
theorem range_runs {P : Program} {n N : Nat} {g : Operand} {ps : Array Tmp} {assign body : Code} {Q : Exit → Act → World → Prop} {a : Act} {w : World} (h1 : 1 ≤ n) {gf : Nat} {lb : Array Value}
    (hg : a.eval g = .func (.func gf) #[] lb) (eg : ∀ args w, (callFunc gf args).run P w = .ok (.enter gf args) w) (lo : Nat) (hlo : lo ≤ w.heap.size) (enc : Nat → Array Value) (hps : ∀ k, (enc k).size = ps.size)
    (hseq : ∀ (l : Nat) (J : Nat → World → Prop) (W : World), Below w.heap.size w W → (∀ k A B, W.heap.size ≤ A.heap.size → Below W.heap.size A B → J k A → J k B) →
      (∀ k W1, k < N → W.heap.size ≤ W1.heap.size → J k W1 → YieldAt Fence.wide (n - 1 - 1) P l (enc k) W1 fun e W' => e = .returned (.bool true) ∧ J (k + 1) W' ∧ KF lo W1 W') →
      J 0 W → CallsIn Fence.wide (n - 1) P gf (#[.func (.yield l) #[] #[]] ++ lb) W fun e W' => (∃ v, e = .returned v) ∧ J N W')
    (I : Nat → World → Prop) (hI : ∀ k A B, Below w.heap.size A B → I k A → I k B) (h0 : I 0 w) (Ax : Nat → Act → World → Prop) (hAx : ∀ k a' A B, KF w.heap.size A B → Ax k a' A → Ax k a' B)
    (hassign : ∀ (l k : Nat) (W : World) (K : Act → World → Prop), w.heap.size ≤ W.heap.size → I k W → (∀ a' W', Below W.heap.size W W' → Ax k a' W' → K a' W') →
      assign.wpIn (Fence.wide.inRound l) (n - 1 - 1) P (Exit.then K (fun _ _ _ => False)) { tmps := (ps.zip (enc k)).foldl (fun t (p, v) => t.setIfInBounds p v) a.tmps, defers := [] } W)
    (hbody : ∀ (l k : Nat) (a' : Act) (W : World), k < N → w.heap.size ≤ W.heap.size → I k W → Ax k a' W → body.wpIn (Fence.wide.inRound l) (n - 1 - 1) P (runPost lo (I (k + 1)) W) a' W)
    (hdone : ∀ (W : World), w.heap.size < W.heap.size → I N W → W.heap[w.heap.size]? = some (.deferred (some [])) → Q .normal { a with defers := { target := .collected w.heap.size, args := #[] } :: a.defers } W) :
    (Code.rangeFunc g ps assign body).wpIn Fence.wide n P Q a w := by
  refine wpIn_rangeFunc ?_
  intro fn hfn
  rw [show Fence.wide.round = none from rfl]
  obtain ⟨rec, hrec⟩ : ∃ rec : LoopState → Option Code → Loop, rec = fun st pe => { state := st, pending := pe, fn, tmps := a.tmps, params := ps, assign, body, defers := w.heap.size } := ⟨_, rfl⟩
  obtain ⟨W1, hW1⟩ : ∃ W1, (w.alloc (.deferred (some []))).alloc (.loop (rec .ready none)) = W1 := ⟨_, rfl⟩
  have hL1 : W1.heap[w.heap.size + 1]? = some (.loop (rec .ready none)) := by
    rw [← hW1]; have := World.alloc_heap_new (w.alloc (.deferred (some []))) (.loop (rec .ready none)); rwa [World.size_alloc] at this
  have hK1 : W1.heap[w.heap.size]? = some (.deferred (some [])) := by
    rw [← hW1]; exact (Below.heap_alloc _ _ _ (by simp)).trans (World.alloc_heap_new w _)
  have hb1 : Below w.heap.size w W1 := by
    rw [← hW1]; exact ((Below.refl _ w).alloced).alloced
  have hs1 : W1.heap.size = w.heap.size + 2 := by rw [← hW1]; simp
  refine ⟨w.heap.size + 1, [{ target := .collected w.heap.size, args := #[] }], W1, { target := .fn (.func gf) lb, args := #[.func (.yield (w.heap.size + 1)) #[] #[]] }, W1, gf,
    #[.func (.yield (w.heap.size + 1)) #[] #[]] ++ lb, W1, ?_, ?_, ?_, ?_, fun _ => h1, ?_⟩
  · rw [← hW1, hrec]; exact run_enterLoop_outer _ _ _ _ _
  · simp only [resolve, hg]
    simp [go_sem]
  · intro f' _; exact trivial
  · simp [invoke, go_sem, eg]
  · have hI1 := hI _ _ _ hb1 h0
    clear hW1
    refine (hseq (w.heap.size + 1)
      (fun k W => I k W ∧ W.heap[w.heap.size + 1]? = some (.loop (rec .ready none)) ∧ W.heap[w.heap.size]? = some (.deferred (some [])))
      W1 hb1 ?_ ?_ ⟨hI1, hL1, hK1⟩).mono ?_
    · rintro k A B hA hB ⟨j1, j2, j3⟩
      exact ⟨hI _ _ _ (hB.mono (by omega)) j1, (hB.block _ (by omega)).trans j2, (hB.block _ (by omega)).trans j3⟩
    · -- one round
      rintro k W hkN hsz ⟨hi, hl, hk⟩
      have hy := run_yield (P := P) (args := enc k) hl (by rw [hrec]; exact hps k)
      rw [hrec] at hy
      refine ⟨fn, _, assign, body, hy, roundIn_of_wpIn hfn (hassign _ k W _ (by omega) hi ?_)⟩
      clear hy
      intro a' Wa hBa hax
      have hla := (hBa.block _ (lt_of_obj hl)).trans hl
      have hka := (hBa.block _ (lt_of_obj hk)).trans hk
      have hia := hI _ _ _ (hBa.mono (by omega)) hi
      have hsa := hBa.size
      refine ⟨_, run_beginRound hla (by rw [hrec]), ?_⟩
      have hlta := lt_of_obj hla
      have hl2 : (Wa.putObj (w.heap.size + 1) (.loop { rec .ready none with state := .busy })).heap[w.heap.size + 1]? = some (.loop { rec .ready none with state := .busy }) := World.putObj_heap_same hlta
      have hk2 : (Wa.putObj (w.heap.size + 1) (.loop { rec .ready none with state := .busy })).heap[w.heap.size]? = some (.deferred (some [])) := (World.putObj_heap_other (by omega)).trans hka
      have hc2 : ∀ lo', KF lo' Wa (Wa.putObj (w.heap.size + 1) (.loop { rec .ready none with state := .busy })) := fun lo' => kf_putObj _ hla
      have hb2 := below_putObj (n₀ := w.heap.size) (.loop { rec .ready none with state := .busy }) (by omega) hlta
      have hs2 := hb2.size
      generalize Wa.putObj (w.heap.size + 1) (.loop { rec .ready none with state := .busy }) = Wb at *
      refine wpIn_mono (hbody _ k a' Wb hkN (by omega) (hI _ _ _ hb2 hia) (hAx _ _ _ _ (hc2 _) hax)) ?_
      rintro e a3 W3 hp
      cases e with
      | normal =>
        obtain ⟨hi3, hs3, hB3⟩ := hp
        have hl3 := (hB3 _ (by omega) (lt_of_obj hl2)).trans hl2
        have hk3' := (hB3 _ (by omega) (lt_of_obj hk2)).trans hk2
        have hr := run_endRound (P := P) none hl3
        have hlt3 := lt_of_obj hl3
        refine ⟨_, _, hr, rfl, ⟨hI _ _ _ (below_putObj _ (by omega) hlt3) hi3, ?_, (World.putObj_heap_other (by omega)).trans hk3'⟩, ?_⟩
        · refine (World.putObj_heap_same hlt3).trans ?_
          rw [hrec]; rfl
        · exact (kf_below hBa).trans ((hc2 _).trans (KF.trans ⟨hs3, fun j i v hj hc => hB3 j hj (lt_of_cell hc)⟩ (kf_putObj _ hl3)))
      | ret => exact hp.elim
      | exit id => exact hp.elim
      | goto t => exact hp.elim
      | panic ch => exact hp.elim
      | outgrown => exact hp.elim
    · rintro e W2 ⟨⟨v, rfl⟩, hi, hl, hk⟩
      have hlt := lt_of_obj hl
      exact ⟨none, _, by have := run_endLoop (P := P) hl (by rw [hrec]; simp); rw [hrec] at this; exact this, hdone _ (by simp; omega) (hI _ _ _ (below_putObj _ (by omega) hlt) hi) ((World.putObj_heap_other (by omega)).trans hk)⟩
end Go.Proofs.Ytacpakmglmfgnaa
