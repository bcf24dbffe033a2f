/-
  Rows of whole numbers in memory: what is read, what the call owns.
-/
import Derived.Test.YtfhkpkebiinglaaRows
import Derived.Test.YtfhkpkebiinglaaDig
import Derived.WalkKit
import Derived.WalkSpells
import Derived.WalkLawsBesides
import Derived.Handy
import Derived.LoopTactic
import Derived.Lib.Hide
import Derived.OwnWalk
import Derived.Below
namespace Go.Proofs.Ytfhkpkebiinglaa
open Go.RowKit

/-- Numbers as values. -/
def cu (k : IntKind) (L : List Nat) : List Value := L.map fun d : Nat => Value.int k (d : Int)
/-- A slice reads as these numbers. -/
structure RowAt (w : World) (k : IntKind) (ao : Option Addr) (cap : Nat) (L : List Nat) : Prop where
  le : L.length ≤ cap
  max : cap ≤ maxLen
  nil : ao = none → L = [] ∧ cap = 0
  cell : ∀ i (h : i < L.length), ∃ b, ao = some ⟨b, 0, none⟩ ∧ b < w.heap.size ∧ w.cell? ⟨b, i, none⟩ = some (.int k (L[i] : Nat))

theorem RowAt.below {B : Nat} {w w' : World} {k : IntKind} {ao : Option Addr} {cap : Nat} {L : List Nat} (h : RowAt w k ao cap L) (hb : Below B w w') (hB : w.heap.size ≤ B) : RowAt w' k ao cap L :=
  ⟨h.le, h.max, h.nil, fun i hi => by
    obtain ⟨b, e, hlt, hc⟩ := h.cell i hi
    exact ⟨b, e, Nat.lt_of_lt_of_le hlt hb.size, (hb.cell (p := ⟨b, i, none⟩) (by show b < B; omega)).trans hc⟩⟩

theorem own_row {w : World} {B e n cap : Nat} {k : IntKind} {ao : Option Addr} {L : List Nat} (h : w.ownsRow B e 1 (.slice ao n cap) n (cu k L)) : n = L.length ∧ RowAt w k ao cap L := by
  have hl : L.length = n := by have := h.1; simpa [cu] using this
  refine ⟨hl.symm, ?_⟩
  rcases h.2 with ⟨hv, hn⟩ | ⟨g, cap', cur, hv, hb, hg, hnc, hm, _, _⟩
  · cases hv
    have hL : L = [] := List.eq_nil_of_length_eq_zero (by omega)
    subst hL
    exact ⟨Nat.zero_le _, Nat.zero_le _, fun _ => ⟨rfl, rfl⟩, fun i hi => absurd hi (Nat.not_lt_zero _)⟩
  · cases hv
    refine ⟨by omega, hm, (fun h => by cases h), fun i hi => ⟨g, rfl, (Array.getElem?_eq_some_iff.1 hg).1, ?_⟩⟩
    have := h.cells (g := g) rfl i (.int k (L[i] : Nat)) (by simp [cu, hi])
    rwa [Addr.add_lit, Nat.zero_add] at this

/-- What is handed back: a row of the call's own that reads as L; of old memory nothing has turned. -/
def GaveRow (e : TypeId) (k : IntKind) (L : List Nat) (w : World) (e' : Ending) (w' : World) : Prop :=
  ∃ v, e' = .returned v ∧ w'.ownsRow w.heap.size e 1 v L.length (cu k L) ∧ Below w.heap.size w w'

/-- The noughts at the end cut off: the number's own digits. -/
theorem take_digs {B : Nat} (hB : 2 ≤ B) (L : List Nat) (h : ∀ d ∈ L, d < B) : L.take (digs B (dval B L)).length = digs B (dval B L) := by
  induction L with
  | nil => rfl
  | cons d L ih =>
    have h1 := ih fun x hx => h x (by simp [hx])
    have h2 := h d (by simp)
    by_cases hz : dval B (d :: L) = 0
    · rw [hz]; rfl
    · rw [digs_pos hB hz]
      simp only [dval]
      rw [Nat.add_mul_mod_self_left, Nat.mod_eq_of_lt h2, Nat.add_mul_div_left _ _ (by omega), Nat.div_eq_of_lt h2, Nat.zero_add, List.length_cons, List.take_succ_cons, h1]
theorem digs_le {B : Nat} (hB : 2 ≤ B) (L : List Nat) (h : ∀ d ∈ L, d < B) : (digs B (dval B L)).length ≤ L.length := (digs_len hB _ _).2 (dval_lt B L h)

/-- Where the loop that cuts noughts off stands at n: behind n all is nought. -/
def CutAt (L : List Nat) (n : Nat) : Prop := n ≤ L.length ∧ ∀ i, n ≤ i → L.getD i 0 = 0
theorem CutAt.stop {B : Nat} (hB : 2 ≤ B) {L : List Nat} (h : ∀ d ∈ L, d < B) {n : Nat} (hc : CutAt L n) (hn : n = 0 ∨ L.getD (n - 1) 0 ≠ 0) : n = (digs B (dval B L)).length := by
  have hv : dval B L = dval B (L.take n) := by
    have e : L = L.take n ++ List.replicate (L.length - n) 0 := by
      apply List.ext_getElem
      · simp; omega
      · intro i h1 h2
        by_cases hi : i < n
        · rw [List.getElem_append_left (by simp; omega), List.getElem_take]
        · rw [List.getElem_append_right (by simp; omega), List.getElem_replicate]
          have := hc.2 i (by omega)
          simpa [List.getD, h1] using this
    conv => lhs; rw [e]
    rw [dval_zeros]
  rw [hv, digs_dval hB _ (fun d hd => h d (List.mem_of_mem_take hd)), List.length_take, Nat.min_eq_left hc.1]
  rcases hn with rfl | hn
  · simp
  · by_cases h0 : n = 0
    · subst h0; simp
    · rw [List.getLast?_take, if_neg h0]
      have hlt : n - 1 < L.length := by have := hc.1; omega
      intro e
      apply hn
      simp [List.getD, hlt]
      rw [List.getElem?_eq_getElem hlt] at e
      simpa using e
theorem getD_lt {L : List Nat} {i : Nat} (h : i < L.length) : L.getD i 0 = L[i] := by simp [List.getD, h]

theorem cut_any (ao : Option Addr) (cap : Nat) (L : List Nat) (hL : ∀ d ∈ L, d < 4294967296) (w : World) (h : RowAt w .u32 ao cap L) :
    Calls Try.prog 83 #[.slice ao L.length cap] w fun e w' => e = .returned (.slice ao (digs 4294967296 (dval 4294967296 L)).length cap) ∧ w = w' := by
  have hm := h.max
  have hle := h.le
  unfold maxLen at hm
  cases ao with
  | none =>
    obtain ⟨rfl, rfl⟩ := h.nil rfl
    go_enter Try.func83, Try.ntmps83
    go_wp2
    go_loop [3] (fun n => n = .int .i64 0) (fun _ => 0)
    case atStart => rfl
    case round =>
      subst hrel
      go_wp2
      go_ret
      exact ⟨rfl, rfl⟩
  | some a =>
    have H := Lib.hid h.cell
    have HL := Lib.hid hL
    clear h hL
    go_enter Try.func83, Try.ntmps83
    go_wp2
    go_loop [3] (fun n => ∃ k, CutAt L k ∧ n = .int .i64 ((k : Nat) : Int)) (fun n => (intOf n).toNat)
    case atStart => exact ⟨L.length, ⟨Nat.le_refl _, fun i hi => by simp [List.getD, hi]⟩, rfl⟩
    case round =>
      obtain ⟨k, hc, rfl⟩ := hrel
      have hk := hc.1
      have HC := Lib.hid hc
      clear hc
      by_cases h0 : k = 0
      · subst h0
        have E := Lib.hid (HC.out.stop (B := 4294967296) (by omega) HL.out (.inl rfl))
        go_wp2
        go_ret
        exact ⟨by rw [← E.out]; rfl, rfl⟩
      · have hk1 : k - 1 < L.length := by omega
        obtain ⟨b, rfl, hb, hcell⟩ : ∃ b, a = ⟨b, 0, none⟩ ∧ b < w.heap.size ∧ w.cell? ⟨b, k - 1, none⟩ = some (.int .u32 (L[k - 1] : Nat)) := by
          obtain ⟨b, e, h1, h2⟩ := H.out (k - 1) hk1
          exact ⟨b, by cases e; rfl, h1, h2⟩
        by_cases hz : L[k - 1] = 0
        · have hC : Hid (CutAt L (k - 1)) := by
            refine ⟨by omega, fun i hi => ?_⟩
            by_cases hik : i = k - 1
            · subst hik; rw [getD_lt hk1]; exact hz
            · exact HC.out.2 i (by omega)
          rw [hz] at hcell
          clear hz
          go_wp2
          go_round
          case rel => exact ⟨k - 1, hC.out, by congr 1; omega⟩
          case measure => simp [intOf]; omega
        · have E := Lib.hid (HC.out.stop (B := 4294967296) (by omega) HL.out (.inr (by rw [getD_lt hk1]; exact hz)))
          have hz' : ((L[k - 1] : Int) == 0) = false := by simpa using hz
          generalize L[k - 1] = d at hcell hz'
          clear hz
          go_wp2
          all_goals (go_ret; exact ⟨by rw [← E.out]; rfl, rfl⟩)
theorem info91 : (Try.prog.info? 91).map (fun i => (i.zero, i.size, i.bytes)) = some (some (.int .u32 0), 1, 4) := by kernel_rfl
/-- A row of the call's own at block g, and of old memory nothing has turned. -/
structure Own (w0 : World) (e : TypeId) (k : IntKind) (g : Nat) (L : List Nat) (w : World) : Prop where
  own : w.ownsRow w0.heap.size e 1 (.slice (some ⟨g, 0, none⟩) L.length L.length) L.length (cu k L)
  below : Below w0.heap.size w0 w
theorem Own.cell {w0 w : World} {e : TypeId} {k : IntKind} {g : Nat} {L : List Nat} (h : Own w0 e k g L w) (j : Nat) (hj : j < L.length) : w.cell? ⟨g, j, none⟩ = some (.int k (L[j] : Nat)) := by
  rw [h.own.cellAt j (by omega)]
  simp [cu, hj]
theorem Own.frozen {w0 w : World} {e : TypeId} {k : IntKind} {g : Nat} {L : List Nat} (h : Own w0 e k g L w) (j : Nat) : w.frozen? ⟨g, j, none⟩ = false := h.own.frozenAt j
theorem Own.store {w0 w : World} {e : TypeId} {k : IntKind} {g : Nat} {L : List Nat} (h : Own w0 e k g L w) (j d : Nat) : Own w0 e k g (L.set j d) (w.setCell ⟨g, j, none⟩ (.int k (d : Nat))) := by
  have hb := (h.own.lt g rfl).1
  refine ⟨?_, h.below.setCell (by exact hb) _⟩
  have := (h.own.stored j (.int k (d : Nat))).1
  rw [List.length_set]
  have e : cu k (L.set j d) = (cu k L).set j (.int k (d : Nat)) := by unfold cu; rw [List.map_set]
  rw [e]; exact this
theorem cut_n (ao : Option Addr) (n cap : Nat) (L : List Nat) (hn : L.length = n) (hL : ∀ d ∈ L, d < 4294967296) (w : World) (h : RowAt w .u32 ao cap L) :
    Calls Try.prog 83 #[.slice ao n cap] w fun e w' => e = .returned (.slice ao (digs 4294967296 (dval 4294967296 L)).length cap) ∧ w = w' := by
  subst hn; exact cut_any ao cap L hL w h
/-- The same row, its noughts cut off. -/
theorem Own.cut {w0 w : World} {e : TypeId} {k : IntKind} {g n : Nat} {L : List Nat} (h : Own w0 e k g L w) (hn : n ≤ L.length) : w.ownsRow w0.heap.size e 1 (.slice (some ⟨g, 0, none⟩) n L.length) n (cu k (L.take n)) := by
  rcases h.own.2 with ⟨hv, _⟩ | ⟨g', cap, cur, hv, hb, hg, h1, h2, h3, h4⟩
  · cases hv
  · cases hv
    refine ⟨by simp [cu]; omega, .inr ⟨g, _, cur, rfl, hb, hg, hn, h2, h3, ?_⟩⟩
    unfold cu at h4 ⊢
    rw [List.map_take, ← h4, List.take_take, Nat.mul_one, Nat.mul_one, Nat.min_eq_left hn]
theorem Own.row {w0 w : World} {e : TypeId} {k : IntKind} {g : Nat} {L : List Nat} (h : Own w0 e k g L w) : RowAt w k (some ⟨g, 0, none⟩) L.length L := (own_row h.own).2
theorem Own.gave {w0 w : World} {e : TypeId} {k : IntKind} {g : Nat} {L : List Nat} {B : Nat} (hB : 2 ≤ B) (h : Own w0 e k g L w) (hL : ∀ d ∈ L, d < B) :
    GaveRow e k (digs B (dval B L)) w0 (.returned (.slice (some ⟨g, 0, none⟩) (digs B (dval B L)).length L.length)) w := by
  have := h.cut (digs_le hB L hL)
  rw [take_digs hB L hL] at this
  exact ⟨_, rfl, this, h.below⟩
theorem cu_zero (k : IntKind) (n : Nat) : (madeCells (Value.int k 0).cells (n * 1)).toList = cu k (List.replicate n 0) := by
  have : (Value.int k 0).cells = #[.int k 0] := rfl
  rw [this, toList_madeCells_one, Nat.mul_one]
  unfold cu
  rw [List.map_replicate]; rfl

end Go.Proofs.Ytfhkpkebiinglaa
