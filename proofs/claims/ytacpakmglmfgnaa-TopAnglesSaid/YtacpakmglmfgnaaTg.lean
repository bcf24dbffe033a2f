/-
  Rows of primes in memory; the walk of factors.
-/
import Derived.Test.YtacpakmglmfgnaaTe
import Derived.OneCell
import Derived.Deep.LoopGhost
namespace Go.Proofs.Ytacpakmglmfgnaa
open Go.RowKit

/-- Primes as values. -/
def fcells (L : List (Nat × Nat)) : List Value := L.flatMap fun x => [.int .u64 (x.1 : Nat), .int .i64 (x.2 : Nat)]
theorem fcells_append (L M : List (Nat × Nat)) : fcells (L ++ M) = fcells L ++ fcells M := by simp [fcells]
theorem fcells_len (L : List (Nat × Nat)) : (fcells L).length = L.length * 2 := by
  induction L with
  | nil => rfl
  | cons x r ih =>
    have : fcells (x :: r) = [.int .u64 (x.1 : Nat), .int .i64 (x.2 : Nat)] ++ fcells r := by simp [fcells]
    rw [this, List.length_append, ih]; simp; omega
theorem fcells_get : ∀ (L : List (Nat × Nat)) (i : Nat) (h : i < L.length), (fcells L)[2 * i]? = some (.int .u64 (L[i].1 : Nat)) ∧ (fcells L)[2 * i + 1]? = some (.int .i64 (L[i].2 : Nat)) := by
  intro L
  induction L with
  | nil => intro i h; simp at h
  | cons x r ih =>
    intro i h
    have e : fcells (x :: r) = .int .u64 (x.1 : Nat) :: .int .i64 (x.2 : Nat) :: fcells r := by simp [fcells]
    rw [e]
    cases i with
    | zero => exact ⟨rfl, rfl⟩
    | succ i =>
      obtain ⟨a, b⟩ := ih i (by simpa using h)
      have e1 : 2 * (i + 1) = 2 * i + 1 + 1 := by omega
      rw [e1]
      simp only [List.getElem?_cons_succ, List.getElem_cons_succ]
      exact ⟨a, b⟩
/-- A slice reads as these primes. -/
structure FRow (w : World) (ao : Option Addr) (cap : Nat) (L : List (Nat × Nat)) : Prop where
  le : L.length ≤ cap
  max : cap ≤ maxLen
  cell : ∀ i (h : i < L.length), ∃ b, ao = some ⟨b, 0, none⟩ ∧ b < w.heap.size ∧ w.cell? ⟨b, 2 * i, none⟩ = some (.int .u64 (L[i].1 : Nat)) ∧ w.cell? ⟨b, 2 * i + 1, none⟩ = some (.int .i64 (L[i].2 : Nat))
theorem FRow.below {w w' : World} {ao : Option Addr} {cap : Nat} {L : List (Nat × Nat)} (h : FRow w ao cap L) (hb : Below w.heap.size w w') : FRow w' ao cap L :=
  ⟨h.le, h.max, fun i hi => by
    obtain ⟨b, e, hlt, h1, h2⟩ := h.cell i hi
    exact ⟨b, e, Nat.lt_of_lt_of_le hlt hb.size, (hb.cell (p := ⟨b, 2 * i, none⟩) hlt).trans h1, (hb.cell (p := ⟨b, 2 * i + 1, none⟩) hlt).trans h2⟩⟩
/-- A row of primes of the call's own; of old memory nothing has turned. -/
structure Fp (w0 : World) (v : Value) (L : List (Nat × Nat)) (w : World) : Prop where
  own : w.ownsRow w0.heap.size 89 2 v L.length (fcells L)
  below : Below w0.heap.size w0 w
  lt : ∀ g, v.ownBlock = some g → g < w.heap.size
theorem own_kept {w w' : World} {base : Nat} {e : TypeId} {size : Nat} {v : Value} {n : Nat} {xs : List Value} (h : w.ownsRow base e size v n xs) (hk : ∀ g, v.ownBlock = some g → w'.heap[g]? = w.heap[g]?) : w'.ownsRow base e size v n xs := by
  obtain ⟨h1, h2⟩ := h
  refine ⟨h1, ?_⟩
  rcases h2 with h2 | ⟨g, cap, cur, hv, hg, hh, r⟩
  · exact Or.inl h2
  · subst hv
    exact Or.inr ⟨g, cap, cur, rfl, hg, by rw [hk g rfl]; exact hh, r⟩
theorem own_lt {w : World} {base : Nat} {e : TypeId} {size : Nat} {v : Value} {n : Nat} {xs : List Value} (h : w.ownsRow base e size v n xs) : ∀ g, v.ownBlock = some g → g < w.heap.size := by
  intro g hg
  rcases h.2 with h2 | ⟨g', cap, cur, hv, hg', hh, r⟩
  · rw [h2.1] at hg; cases hg
  · subst hv
    cases hg
    exact (Array.getElem?_eq_some_iff.1 hh).1
theorem Fp.on {w0 w w' : World} {v : Value} {L : List (Nat × Nat)} (h : Fp w0 v L w) (hb : Below w.heap.size w w') : Fp w0 v L w' := by
  have ho := own_kept h.own (w' := w') fun g hg => hb.block g (h.lt g hg)
  exact ⟨ho, h.below.on hb, own_lt ho⟩
theorem Fp.nil (w0 : World) : Fp w0 (.slice none 0 0) [] w0 := ⟨World.ownsRow_nil _ _ _ _, Below.refl _ _, fun g h => by cases h⟩
theorem info89 : (Try.prog.info? 89).map (fun i => (i.zero, i.size, i.bytes)) = some (some (.agg #[.int .u64 0, .int .i64 0]), 2, 16) := by kernel_rfl
theorem wpList_append_part {ops : Array Oper} {rest : List Oper} {o : Oper} {a : Act} {Q : Exit → Act → World → Prop} (hgd : o.guard = none) (s x : Operand)
    (ho : o.op = .call { callee := .builtin .append, args := #[s, x], argTypes := #[86, 86] })
    (w0 : World) {v : Value} {L : List (Nat × Nat)} {W : World} (hap : Fp w0 v L W) (p c : Nat) (hs : a.eval s = v) (hx : a.eval x = .slice (some ⟨W.heap.size, 0, none⟩) 1 1) (hlen : L.length ≤ 100000)
    (h : ∀ v' w', Fp w0 v' (L ++ [(p, c)]) w' → wpList Try.prog ops Q rest (a.put o.dst v') w') : wpList Try.prog ops Q (o :: rest) a (W.alloc (.cells #[.int .u64 (p : Nat), .int .i64 (c : Nat)] 89)) := by
  obtain ⟨i0, hi0, hz0, hi1, hi2⟩ := info_parts info89
  refine wpList_append_own _ hgd s x 86 ho w0.heap.size 89 i0 (.agg #[.int .u64 0, .int .i64 0]) 2 16 Try.underlying86 hi0 hz0 hi1 hi2 rfl (by omega) v L.length (fcells L) hs (hap.own.alloc _) ⟨W.heap.size, 0, none⟩ 1 1 [.int .u64 (p : Nat), .int .i64 (c : Nat)] hx rfl ?_ ?_ ?_ ?_ ?_ ?_
  · intro j u hu
    match j with
    | 0 =>
      have e1 : (⟨W.heap.size, 0, none⟩ : Addr).add 0 = ⟨W.heap.size, 0, none⟩ := by rw [Addr.add_lit]
      rw [e1, World.cell?_alloc_at _ _ _ _ rfl]
      simpa using hu
    | 1 =>
      have e1 : (⟨W.heap.size, 0, none⟩ : Addr).add 1 = ⟨W.heap.size, 1, none⟩ := by rw [Addr.add_lit]
      rw [e1, World.cell?_alloc_at _ _ _ _ rfl]
      simpa using hu
    | j + 2 => simp at hu
  · intro u hu
    simp at hu
    rcases hu with rfl | rfl <;> rfl
  · unfold maxLen; omega
  · omega
  · have := hap.below.size; simp; omega
  · intro v' w' h1 h2 _
    have e1 : fcells (L ++ [(p, c)]) = fcells L ++ [.int .u64 (p : Nat), .int .i64 (c : Nat)] := by rw [fcells_append]; rfl
    have ho' : w'.ownsRow w0.heap.size 89 2 v' (L ++ [(p, c)]).length (fcells (L ++ [(p, c)])) := by
      rw [List.length_append, List.length_singleton, e1]; exact h1
    refine h v' w' ⟨ho', ?_, own_lt ho'⟩
    refine (hap.below.alloc hap.below.size _).grown h2 (Nat.le_trans hap.below.size (by simp)) fun k' hk' => ?_
    exact (hap.own.lt k' hk').1
theorem Fp.row {w0 w : World} {v : Value} {L : List (Nat × Nat)} (h : Fp w0 v L w) : ∃ ao cap, v = .slice ao L.length cap ∧ FRow w ao cap L := by
  rcases h.own.2 with ⟨hv, h0⟩ | ⟨g, cap, cur, hv, hb, hg, h1, h2, h3, h4⟩
  · have hL : L = [] := List.eq_nil_of_length_eq_zero h0
    subst hL
    exact ⟨none, 0, hv, by simp, Nat.zero_le _, fun i hi => by simp at hi⟩
  · refine ⟨some ⟨g, 0, none⟩, cap, hv, h1, h2, fun i hi => ?_⟩
    obtain ⟨a, b⟩ := fcells_get L i hi
    refine ⟨g, rfl, h.lt g (by rw [hv]; rfl), ?_, ?_⟩
    · have := h.own.cells (g := g) (by rw [hv]; rfl) (2 * i) _ a
      rwa [Addr.add_lit, Nat.zero_add] at this
    · have := h.own.cells (g := g) (by rw [hv]; rfl) (2 * i + 1) _ b
      rwa [Addr.add_lit, Nat.zero_add] at this
end Go.Proofs.Ytacpakmglmfgnaa
