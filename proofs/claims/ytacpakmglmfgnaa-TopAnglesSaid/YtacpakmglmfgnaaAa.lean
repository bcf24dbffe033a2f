/-
  Rows of fractions.
-/
import Derived.Test.YtacpakmglmfgnaaRc
import Derived.Deep.AppendLies
namespace Go.Proofs.Ytacpakmglmfgnaa
open Go.RowKit

def rcells (L : List (Nat × Nat)) : List Value := L.flatMap fun x => [.bool false, .string (enc x.1), .string (enc x.2)]
theorem rcells_append (L M : List (Nat × Nat)) : rcells (L ++ M) = rcells L ++ rcells M := by simp [rcells]
theorem rcells_get : ∀ (L : List (Nat × Nat)) (i : Nat) (h : i < L.length), (rcells L)[3 * i]? = some (.bool false) ∧ (rcells L)[3 * i + 1]? = some (.string (enc L[i].1)) ∧ (rcells L)[3 * i + 2]? = some (.string (enc L[i].2))
  | [], i, h => by simp at h
  | x :: r, 0, _ => ⟨rfl, rfl, rfl⟩
  | x :: r, i + 1, h => by
    obtain ⟨a, b, c⟩ := rcells_get r i (by simpa using h)
    have e : rcells (x :: r) = .bool false :: .string (enc x.1) :: .string (enc x.2) :: rcells r := rfl
    rw [e]
    refine ⟨?_, ?_, ?_⟩
    · rw [show 3 * (i + 1) = 3 * i + 1 + 1 + 1 by omega]; simpa using a
    · rw [show 3 * (i + 1) + 1 = (3 * i + 1) + 1 + 1 + 1 by omega]; simpa using b
    · rw [show 3 * (i + 1) + 2 = (3 * i + 2) + 1 + 1 + 1 by omega]; simpa using c
/-- A row of fractions that is read. -/
structure RRow (w : World) (ao : Option Addr) (cap : Nat) (L : List (Nat × Nat)) : Prop where
  le : L.length ≤ cap
  max : cap ≤ maxLen
  cell : ∀ i (h : i < L.length), ∃ b, ao = some ⟨b, 0, none⟩ ∧ b < w.heap.size ∧ w.cell? ⟨b, 3 * i, none⟩ = some (.bool false) ∧ w.cell? ⟨b, 3 * i + 1, none⟩ = some (.string (enc L[i].1)) ∧ w.cell? ⟨b, 3 * i + 2, none⟩ = some (.string (enc L[i].2))
theorem RRow.below {w w' : World} {ao : Option Addr} {cap : Nat} {L : List (Nat × Nat)} (h : RRow w ao cap L) (hb : Below w.heap.size w w') : RRow w' ao cap L :=
  ⟨h.le, h.max, fun i hi => by
    obtain ⟨b, e, hlt, h1, h2, h3⟩ := h.cell i hi
    exact ⟨b, e, Nat.lt_of_lt_of_le hlt hb.size, (hb.cell (p := ⟨b, 3 * i, none⟩) hlt).trans h1, (hb.cell (p := ⟨b, 3 * i + 1, none⟩) hlt).trans h2, (hb.cell (p := ⟨b, 3 * i + 2, none⟩) hlt).trans h3⟩⟩
/-- A row of fractions of the call's own; of old memory nothing has turned. -/
structure Rp (w0 : World) (v : Value) (L : List (Nat × Nat)) (w : World) : Prop where
  own : w.ownsRow w0.heap.size 24 3 v L.length (rcells L)
  below : Below w0.heap.size w0 w
  lt : ∀ g, v.ownBlock = some g → g < w.heap.size
theorem Rp.on {w0 w w' : World} {v : Value} {L : List (Nat × Nat)} (h : Rp w0 v L w) (hb : Below w.heap.size w w') : Rp w0 v L w' := by
  exact ⟨own_kept h.own (fun g hg => hb.block g (h.lt g hg)), h.below.on hb, fun g hg => Nat.lt_of_lt_of_le (h.lt g hg) hb.size⟩
theorem Rp.nil (w0 : World) : Rp w0 (.slice none 0 0) [] w0 := ⟨World.ownsRow_nil _ _ _ _, Below.refl _ _, fun g h => by cases h⟩
theorem info24 : (Try.prog.info? 24).map (fun i => (i.zero, i.size, i.bytes)) = some (some (.agg #[.bool false, .string ⟨#[]⟩, .string ⟨#[]⟩]), 3, 40) := by kernel_rfl
theorem wpList_append_ratio {ops : Array Oper} {rest : List Oper} {o : Oper} {a : Act} {Q : Exit → Act → World → Prop} (hgd : o.guard = none) (s x : Operand)
    (ho : o.op = .call { callee := .builtin .append, args := #[s, x], argTypes := #[37, 37] })
    (w0 : World) {v : Value} {L : List (Nat × Nat)} {W : World} (hap : Rp w0 v L W) (p c : Nat) (hs : a.eval s = v) (hx : a.eval x = .slice (some ⟨W.heap.size, 0, none⟩) 1 1) (hlen : L.length ≤ 100000)
    (h : ∀ v' w', Rp w0 v' (L ++ [(p, c)]) w' → wpList Try.prog ops Q rest (a.put o.dst v') w') : wpList Try.prog ops Q (o :: rest) a (W.alloc (.cells #[.bool false, .string (enc p), .string (enc c)] 24)) := by
  obtain ⟨i0, hi0, hz0, hi1, hi2⟩ := info_parts info24
  refine wpList_append_own _ hgd s x 37 ho w0.heap.size 24 i0 (.agg #[.bool false, .string ⟨#[]⟩, .string ⟨#[]⟩]) 3 40 Try.underlying37 hi0 hz0 hi1 hi2 rfl (by omega) v L.length (rcells L) hs (hap.own.alloc _) ⟨W.heap.size, 0, none⟩ 1 1 [.bool false, .string (enc p), .string (enc c)] hx rfl ?_ ?_ ?_ ?_ ?_ ?_
  · intro j u hu
    match j with
    | 0 =>
      have e1 : (⟨W.heap.size, 0, none⟩ : Addr).add 0 = ⟨W.heap.size, 0, none⟩ := by rw [Addr.add_lit]
      rw [e1, World.cell?_alloc_at _ _ _ _ rfl]
      simpa using hu
    | 1 =>
      have e1 : (⟨W.heap.size, 0, none⟩ : Addr).add 1 = ⟨W.heap.size, 1, none⟩ := by rw [Addr.add_lit]
      rw [e1, World.cell?_alloc_at _ _ _ _ rfl]
      simpa using hu
    | 2 =>
      have e1 : (⟨W.heap.size, 0, none⟩ : Addr).add 2 = ⟨W.heap.size, 2, none⟩ := by rw [Addr.add_lit]
      rw [e1, World.cell?_alloc_at _ _ _ _ rfl]
      simpa using hu
    | j + 3 => simp at hu
  · intro u hu
    simp at hu
    rcases hu with rfl | rfl | rfl <;> rfl
  · unfold maxLen; omega
  · omega
  · have := hap.below.size; simp; omega
  · intro v' w' h1 h2 _
    have e1 : rcells (L ++ [(p, c)]) = rcells L ++ [.bool false, .string (enc p), .string (enc c)] := by rw [rcells_append]; rfl
    have ho' : w'.ownsRow w0.heap.size 24 3 v' (L ++ [(p, c)]).length (rcells (L ++ [(p, c)])) := by
      rw [List.length_append, List.length_singleton, e1]; exact h1
    refine h v' w' ⟨ho', ?_, own_lt ho'⟩
    refine (hap.below.alloc hap.below.size _).grown h2 (Nat.le_trans hap.below.size (by simp)) fun k' hk' => ?_
    exact (hap.own.lt k' hk').1
theorem Rp.row {w0 w : World} {v : Value} {L : List (Nat × Nat)} (h : Rp w0 v L w) : ∃ ao cap, v = .slice ao L.length cap ∧ RRow w ao cap L := by
  rcases h.own.2 with ⟨hv, h0⟩ | ⟨g, cap, cur, hv, hb, hg, h1, h2, h3, h4⟩
  · have hL : L = [] := List.eq_nil_of_length_eq_zero h0
    subst hL
    exact ⟨none, 0, hv, by simp, Nat.zero_le _, fun i hi => by simp at hi⟩
  · refine ⟨some ⟨g, 0, none⟩, cap, hv, h1, h2, fun i hi => ?_⟩
    obtain ⟨a, b, c⟩ := rcells_get L i hi
    refine ⟨g, rfl, h.lt g (by rw [hv]; rfl), ?_, ?_, ?_⟩
    · have := h.own.cells (g := g) (by rw [hv]; rfl) (3 * i) _ a
      rwa [Addr.add_lit, Nat.zero_add] at this
    · have := h.own.cells (g := g) (by rw [hv]; rfl) (3 * i + 1) _ b
      rwa [Addr.add_lit, Nat.zero_add] at this
    · have := h.own.cells (g := g) (by rw [hv]; rfl) (3 * i + 2) _ c
      rwa [Addr.add_lit, Nat.zero_add] at this
end Go.Proofs.Ytacpakmglmfgnaa
