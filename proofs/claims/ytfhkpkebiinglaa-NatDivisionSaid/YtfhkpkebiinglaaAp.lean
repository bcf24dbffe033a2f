/-
  Appending one element to a row of the call's own.
-/
import Derived.Test.YtfhkpkebiinglaaCmp
import Derived.Test.YtfhkpkebiinglaaPl
import Derived.OneCell
namespace Go.Proofs.Ytfhkpkebiinglaa
open Go.RowKit

/-- A row of the call's own, whatever its capacity; of old memory nothing has turned. -/
structure Ap (w0 : World) (e : TypeId) (k : IntKind) (v : Value) (L : List Nat) (w : World) : Prop where
  own : w.ownsRow w0.heap.size e 1 v L.length (cu k L)
  below : Below w0.heap.size w0 w
theorem Ap.nil (w0 : World) (e : TypeId) (k : IntKind) : Ap w0 e k (.slice none 0 0) [] w0 := ⟨World.ownsRow_nil _ _ _ _, Below.refl _ _⟩
theorem Ap.nil' {w0 w : World} (e : TypeId) (k : IntKind) (h : Below w0.heap.size w0 w) : Ap w0 e k (.slice none 0 0) [] w := ⟨World.ownsRow_nil _ _ _ _, h⟩
theorem Ap.drew {w0 w : World} {e : TypeId} {k : IntKind} {v : Value} {L : List Nat} (h : Ap w0 e k v L w) : Ap w0 e k v L w.drew := ⟨h.own, h.below.drew⟩

theorem wpList_append_one {P : Program} {ops : Array Oper} {rest : List Oper} {o : Oper} {a : Act} {Q : Exit → Act → World → Prop} (hgd : o.guard = none) (s x : Operand) (t : TypeId)
    (ho : o.op = .call { callee := .builtin .append, args := #[s, x], argTypes := #[t, t] })
    {e : TypeId} {z : Value} {bytes : Nat} (ht : P.underlying t = some (.slice e)) (hinfo : (P.info? e).map (fun i => (i.zero, i.size, i.bytes)) = some (some z, 1, bytes)) (hz1 : z.cells.size = 1) (hb : bytes ≤ 8)
    (w0 : World) {k : IntKind} {v : Value} {L : List Nat} {W : World} (hap : Ap w0 e k v L W) (d : Nat) (y : Int) (hs : a.eval s = v) (hx : a.eval x = .slice (some ⟨W.heap.size, 0, none⟩) 1 1) (hy : y = (d : Int)) (hlen : L.length ≤ 10000000)
    (h : ∀ v' w', Ap w0 e k v' (L ++ [d]) w' → wpList P ops Q rest (a.put o.dst v') w') : wpList P ops Q (o :: rest) a (W.alloc (.cells #[.int k y] e)) := by
  obtain ⟨i0, hi0, hz0, hi1, hi2⟩ := info_parts hinfo
  subst hy
  refine wpList_append_own _ hgd s x t ho w0.heap.size e i0 z 1 bytes ht hi0 hz0 hi1 hi2 hz1 (by omega) v L.length (cu k L) hs (hap.own.alloc _) ⟨W.heap.size, 0, none⟩ 1 1 [.int k (d : Int)] hx rfl ?_ ?_ ?_ ?_ ?_ ?_
  · intro j u hu
    match j with
    | 0 =>
      have e1 : (⟨W.heap.size, 0, none⟩ : Addr).add 0 = ⟨W.heap.size, 0, none⟩ := by rw [Addr.add_lit]
      rw [e1, World.cell?_alloc_at _ _ _ _ rfl]
      simpa using hu
    | j + 1 => simp at hu
  · intro u hu; rw [List.mem_singleton.1 hu]; rfl
  · unfold maxLen; omega
  · have : (L.length + 1) * bytes ≤ (L.length + 1) * 8 := Nat.mul_le_mul_left _ hb
    omega
  · have := hap.below.size; simp; omega
  · intro v' w' h1 h2 _
    refine h v' w' ⟨?_, ?_⟩
    · rw [List.length_append, List.length_singleton]
      have e1 : cu k (L ++ [d]) = cu k L ++ [.int k (d : Int)] := by simp [cu]
      rw [e1]; exact h1
    · refine (hap.below.alloc hap.below.size _).grown h2 (Nat.le_trans hap.below.size (by simp)) fun k' hk' => ?_
      exact (hap.own.lt k' hk').1

theorem own_cut {w : World} {B e n cap : Nat} {k : IntKind} {ao : Option Addr} {L : List Nat} (h : w.ownsRow B e 1 (.slice ao n cap) n (cu k L)) (m : Nat) (hm : m ≤ n) : w.ownsRow B e 1 (.slice ao m cap) m (cu k (L.take m)) := by
  have hl : L.length = n := by have := h.1; simpa [cu] using this
  rcases h.2 with ⟨hv, h0⟩ | ⟨g', cap', cur, hv, hb, hg, h1, h2, h3, h4⟩
  · cases hv
    have : m = 0 := by omega
    subst this
    exact ⟨by simp [cu], .inl ⟨rfl, rfl⟩⟩
  · cases hv
    refine ⟨by simp [cu]; omega, .inr ⟨g', _, cur, rfl, hb, hg, by omega, h2, h3, ?_⟩⟩
    unfold cu at h4 ⊢
    rw [List.map_take, ← h4, List.take_take, Nat.mul_one, Nat.mul_one, Nat.min_eq_left hm]
/-- What Ap leaves at the end: the slice, its cut, what is handed back. -/
theorem Ap.done {w0 w : World} {e : TypeId} {k : IntKind} {v : Value} {L : List Nat} (h : Ap w0 e k v L w) {B : Nat} (hB : 2 ≤ B) (hL : ∀ d ∈ L, d < B) :
    ∃ ao n cap, Hid (L.length = n) ∧ v = .slice ao n cap ∧ RowAt w k ao cap L ∧ GaveRow e k (digs B (dval B L)) w0 (.returned (.slice ao (digs B (dval B L)).length cap)) w := by
  obtain ⟨ao, cap, rfl, r⟩ := own_slice h.own
  refine ⟨ao, _, cap, rfl, rfl, r, _, rfl, ?_, h.below⟩
  have := own_cut h.own _ (digs_le hB L hL)
  rwa [take_digs hB L hL] at this
theorem Add32_any (x y c : Nat) (hx : x < 4294967296) (hy : y < 4294967296) (hc : c < 4294967296) (w : World) :
    Calls Try.prog 85 #[.int .u32 (x : Int), .int .u32 (y : Int), .int .u32 (c : Int)] w fun e w' => e = .returned (.tuple #[.int .u32 (((x + y + c) % 4294967296 : Nat) : Int), .int .u32 (((x + y + c) / 4294967296 : Nat) : Int)]) ∧ w = w' := by
  go_enter Try.func85, Try.ntmps85
  go_wp2
  go_ret2
  refine ⟨?_, rfl⟩
  congr 3
end Go.Proofs.Ytfhkpkebiinglaa
