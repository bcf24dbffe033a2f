/-
  The walk of Text: a number's decimal digits.
-/
import Derived.Test.YtfhkpkebiinglaaSums
import Derived.Deep.AppendLies
namespace Go.Proofs.Ytfhkpkebiinglaa
open Go.RowKit

theorem own_below {w w' : World} {B e n : Nat} {v : Value} {xs : List Value} (h : w.ownsRow B e 1 v n xs) (hb : Below w.heap.size w w') : w'.ownsRow B e 1 v n xs := by
  refine ⟨h.1, ?_⟩
  rcases h.2 with h2 | ⟨g, cap, cur, hv, hB, hg, h1⟩
  · exact .inl h2
  · refine .inr ⟨g, cap, cur, hv, hB, ?_, h1⟩
    rw [hb.block g (Array.getElem?_eq_some_iff.1 hg).1]; exact hg
theorem Ap.on {w0 w w' : World} {e : TypeId} {k : IntKind} {v : Value} {L : List Nat} (h : Ap w0 e k v L w) (hb : Below w.heap.size w w') : Ap w0 e k v L w' := ⟨own_below h.own hb, h.below.on hb⟩
/-- A row that reads so, in another block than v's. -/
structure Away (v : Value) (w : World) (k : IntKind) (ao : Option Addr) (cap : Nat) (L : List Nat) : Prop where
  row : RowAt w k ao cap L
  far : L ≠ [] → v.ownBlock ≠ ao.map Addr.block
theorem Away.of_gave {w0 w w' : World} {e e2 : TypeId} {k k2 : IntKind} {v : Value} {L M : List Nat} {ao : Option Addr} {n cap : Nat} (h : Ap w0 e k v L w) (ho : w'.ownsRow w.heap.size e2 1 (.slice ao n cap) n (cu k2 M)) : Away v w' k2 ao cap M := by
  have hr := own_row ho
  refine ⟨hr.2, fun hM he => ?_⟩
  obtain ⟨b, rfl, _, _⟩ := hr.2.cell 0 (List.length_pos_iff.2 hM)
  have h1 := (ho.lt b rfl).1
  have h2 := (h.own.lt b (by rw [he]; rfl)).2
  omega
theorem wpList_append_two {P : Program} {ops : Array Oper} {rest : List Oper} {o : Oper} {a : Act} {Q : Exit → Act → World → Prop} (hgd : o.guard = none) (s x : Operand) (t : TypeId)
    (ho : o.op = .call { callee := .builtin .append, args := #[s, x], argTypes := #[t, t] })
    {e : TypeId} {z : Value} {bytes : Nat} (ht : P.underlying t = some (.slice e)) (hinfo : (P.info? e).map (fun i => (i.zero, i.size, i.bytes)) = some (some z, 1, bytes)) (hz1 : z.cells.size = 1) (hb : bytes ≤ 8)
    (w0 : World) {k : IntKind} {v : Value} {L : List Nat} {W : World} (hap : Ap w0 e k v L W) (d : Nat) (y : Int) (hs : a.eval s = v) (hx : a.eval x = .slice (some ⟨W.heap.size, 0, none⟩) 1 1) (hy : y = (d : Int)) (hlen : L.length ≤ 10000000)
    (h : ∀ v' w', Ap w0 e k v' (L ++ [d]) w' → (∀ k2 ao cap M, Away v W k2 ao cap M → Away v' w' k2 ao cap M) → wpList P ops Q rest (a.put o.dst v') w') : wpList P ops Q (o :: rest) a (W.alloc (.cells #[.int k y] e)) := by
  obtain ⟨i0, hi0, hz0, hi1, hi2⟩ := info_parts hinfo
  subst hy
  refine wpList_append_lies _ hgd s x t ho w0.heap.size e i0 z 1 bytes ht hi0 hz0 hi1 hi2 hz1 (by omega) v L.length (cu k L) hs (hap.own.alloc _) ⟨W.heap.size, 0, none⟩ 1 1 [.int k (d : Int)] hx rfl ?_ ?_ (by omega) ?_ ?_ ?_ (W.heap.size + 1) (by simp) ?_
  · exact World.news_of_block (cs := #[.int k (d : Int)]) (t := e) (fr := (0, 0)) (heap_alloc_new W _)
  · intro u hu; rw [List.mem_singleton.1 hu]; rfl
  · unfold maxLen; omega
  · have : (L.length + 1) * bytes ≤ (L.length + 1) * 8 := Nat.mul_le_mul_left _ hb
    omega
  · have := hap.below.size; simp; omega
  · intro g cap w' h1 h2 h3 h4
    refine h _ w' ⟨?_, ?_⟩ ?_
    · rw [List.length_append, List.length_singleton]
      have e1 : cu k (L ++ [d]) = cu k L ++ [.int k (d : Int)] := by simp [cu]
      rw [e1]; exact h1
    · refine (hap.below.alloc hap.below.size _).grown h2 (Nat.le_trans hap.below.size (by simp)) fun k' hk' => ?_
      exact (hap.own.lt k' hk').1
    · intro k2 ao c2 M hM
      refine ⟨⟨hM.row.le, hM.row.max, hM.row.nil, fun i hi => ?_⟩, fun hne => ?_⟩
      · obtain ⟨b, rfl, hlt, hc⟩ := hM.row.cell i hi
        refine ⟨b, rfl, Nat.lt_of_lt_of_le hlt (Nat.le_trans (by simp) h2.size), ?_⟩
        have hfar := hM.far (by intro e0; rw [e0] at hi; exact absurd hi (Nat.not_lt_zero _))
        rw [h2.cell_far _ (by simp; omega) (fun e0 => hfar (by rw [← e0]; rfl)), World.cell?_alloc_lt _ _ _ hlt]
        exact hc
      · obtain ⟨b, rfl, hlt, _⟩ := hM.row.cell 0 (List.length_pos_iff.2 hne)
        have hfar := hM.far hne
        intro e0
        have hg : g = b := by simpa [Value.ownBlock] using e0
        rcases h3 with h3 | h3
        · exact hfar (by rw [h3, hg]; rfl)
        · omega

/-- Where the taking of digits stands: the digits so far, what is left of the nine, the quotient. -/
structure TextAt (N : Nat) (D : List Nat) (d i M : Nat) : Prop where
  lt : ∀ x ∈ D, x < 10
  upto : i ≤ 9
  low : d < 10 ^ (9 - i)
  val : dval 10 D + 10 ^ D.length * (d + 10 ^ (9 - i) * M) = N
theorem TextAt.start (N : Nat) : TextAt N [] 0 9 N := ⟨(fun x h => by cases h), Nat.le_refl _, by simp, by simp [dval]⟩
theorem TextAt.next {N : Nat} {D : List Nat} {M : Nat} (h : TextAt N D 0 9 M) : TextAt N D (M % 1000000000) 0 (M / 1000000000) := by
  refine ⟨h.lt, Nat.zero_le _, Nat.mod_lt _ (by omega), ?_⟩
  have hv := h.val
  have e : M % 1000000000 + 10 ^ (9 - 0) * (M / 1000000000) = 0 + 10 ^ (9 - 9) * M := by
    have := Nat.mod_add_div M 1000000000
    simp; omega
  rw [e]; exact hv
theorem TextAt.step {N : Nat} {D : List Nat} {d i M : Nat} (h : TextAt N D d i M) (hi : i < 9) : TextAt N (D ++ [d % 10]) (d / 10) (i + 1) M := by
  have hl := h.low
  have e : 9 - i = (9 - (i + 1)) + 1 := by omega
  rw [e, Nat.pow_succ] at hl
  refine ⟨snoc_lt h.lt (Nat.mod_lt _ (by omega)), hi, (Nat.div_lt_iff_lt_mul (by omega)).2 hl, ?_⟩
  have hv := h.val
  rw [dval_snoc, List.length_append, List.length_singleton, Nat.pow_succ]
  rw [e, Nat.pow_succ] at hv
  generalize 10 ^ (9 - (i + 1)) = p at *
  generalize 10 ^ D.length = P at *
  have e2 : P * 10 * (d / 10 + p * M) = P * (10 * (d / 10) + p * 10 * M) := by
    rw [Nat.mul_assoc, Nat.mul_add, Nat.mul_comm p 10, Nat.mul_assoc 10 p]
  rw [e2, ← hv, Nat.add_assoc, ← Nat.mul_add, ← Nat.add_assoc]
  congr 3
  omega
theorem TextAt.len {N : Nat} {D : List Nat} {d i M K : Nat} (h : TextAt N D d i M) (hM : M ≠ 0) (hN : N < 2 ^ K) : D.length ≤ K := by
  have h1 : 10 ^ D.length ≤ N := by
    rw [← h.val]
    have : 1 ≤ d + 10 ^ (9 - i) * M := by
      have := Nat.mul_pos (Nat.pow_pos (n := 9 - i) (show 0 < 10 by omega)) (Nat.pos_of_ne_zero hM)
      omega
    have := Nat.mul_le_mul_left (10 ^ D.length) this
    omega
  have h2 : 2 ^ D.length ≤ 10 ^ D.length := Nat.pow_le_pow_left (by omega) _
  have h3 : 2 ^ D.length < 2 ^ K := by omega
  exact Nat.le_of_lt ((Nat.pow_lt_pow_iff_right (by omega)).1 h3)
def up (D : List Nat) : List Nat := D.map (· + 48)
theorem up_len (D : List Nat) : (up D).length = D.length := by simp [up]
theorem up_snoc (D : List Nat) (d : Nat) : up (D ++ [d]) = up D ++ [d + 48] := by simp [up]
/-- A number's decimal text. -/
def dec (N : Nat) : ByteArray := if N = 0 then ⟨#[48]⟩ else strOfNums ((digs 10 N).reverse.map fun d : Nat => ((d + 48 : Nat) : Int))
def lenOf : Value → Nat | .slice _ n _ => n | _ => 0
end Go.Proofs.Ytfhkpkebiinglaa
