/-
  Rows of digits in memory: what is read, what the call owns; the walks of above and plus.
-/
import Derived.Test.YtoihdhmgjfoclaaDg
import Derived.Test.YtoihdhmgjfoclaaWd
import Derived.LoopTactic
import Derived.Lib.Hide
import Derived.OwnWalk
import Derived.Below
import Derived.Deep.QuietTactic
import Derived.BigQuiet
import Derived.IntWalk
namespace Go.Proofs.Ytoihdhmgjfoclaa
open Go.RowKit

/-- Numbers as values. -/
def cu (L : List Nat) : List Value := L.map fun d : Nat => Value.int .u32 (d : Int)
/-- A slice reads as these numbers. -/
structure RowAt (w : World) (b cap : Nat) (L : List Nat) : Prop where
  le : L.length ≤ cap
  max : cap ≤ maxLen
  lt : b < w.heap.size
  cell : ∀ i (h : i < L.length), w.cell? ⟨b, i, none⟩ = some (.int .u32 (L[i] : Nat))
  dig : ∀ d ∈ L, d < 65536
theorem RowAt.below {w w' : World} {b cap : Nat} {L : List Nat} (h : RowAt w b cap L) (hb : Below w.heap.size w w') : RowAt w' b cap L :=
  ⟨h.le, h.max, Nat.lt_of_lt_of_le h.lt hb.size, fun i hi => (hb.cell (p := ⟨b, i, none⟩) h.lt).trans (h.cell i hi), h.dig⟩
theorem own_row {w : World} {B e n cap b : Nat} {L : List Nat} (h : w.ownsRow B e 1 (.slice (some ⟨b, 0, none⟩) n cap) n (cu L)) (hd : ∀ d ∈ L, d < 65536) : n = L.length ∧ RowAt w b cap L := by
  have hl : L.length = n := by have := h.1; simpa [cu] using this
  refine ⟨hl.symm, ?_⟩
  rcases h.2 with ⟨hv, hn⟩ | ⟨g, cap', cur, hv, hb, hg, hnc, hm, _, _⟩
  · cases hv
  · cases hv
    refine ⟨by omega, hm, (Array.getElem?_eq_some_iff.1 hg).1, fun i hi => ?_, hd⟩
    have := h.cells (g := b) rfl i (.int .u32 (L[i] : Nat)) (by simp [cu, hi])
    rwa [Addr.add_lit, Nat.zero_add] at this
/-- A row of the call's own at block g, and of old memory nothing has turned. -/
structure Own (w0 : World) (g : Nat) (L : List Nat) (w : World) : Prop where
  own : w.ownsRow w0.heap.size 39 1 (.slice (some ⟨g, 0, none⟩) L.length L.length) L.length (cu L)
  below : Below w0.heap.size w0 w
theorem Own.cell {w0 w : World} {g : Nat} {L : List Nat} (h : Own w0 g L w) (j : Nat) (hj : j < L.length) : w.cell? ⟨g, j, none⟩ = some (.int .u32 (L[j] : Nat)) := by
  rw [h.own.cellAt j (by omega)]
  simp [cu, hj]
theorem Own.frozen {w0 w : World} {g : Nat} {L : List Nat} (h : Own w0 g L w) (j : Nat) : w.frozen? ⟨g, j, none⟩ = false := h.own.frozenAt j
theorem Own.store {w0 w : World} {g : Nat} {L : List Nat} (h : Own w0 g L w) (j d : Nat) : Own w0 g (L.set j d) (w.setCell ⟨g, j, none⟩ (.int .u32 (d : Nat))) := by
  have hb := (h.own.lt g rfl).1
  refine ⟨?_, h.below.setCell (by exact hb) _⟩
  have := (h.own.stored j (.int .u32 (d : Nat))).1
  rw [List.length_set]
  have e : cu (L.set j d) = (cu L).set j (.int .u32 (d : Nat)) := by unfold cu; rw [List.map_set]
  rw [e]; exact this
theorem Own.row {w0 w : World} {g : Nat} {L : List Nat} (h : Own w0 g L w) (hd : ∀ d ∈ L, d < 65536) : RowAt w g L.length L := (own_row h.own hd).2
theorem cu_zero (n : Nat) : (madeCells (Value.int .u32 0).cells (n * 1)).toList = cu (List.replicate n 0) := by
  have : (Value.int .u32 0).cells = #[.int .u32 0] := rfl
  rw [this, toList_madeCells_one, Nat.mul_one]
  unfold cu
  rw [List.map_replicate]; rfl
theorem info39 : (Try.prog.info? 39).map (fun i => (i.zero, i.size, i.bytes)) = some (some (.int .u32 0), 1, 4) := by kernel_rfl
theorem Own.drew {w0 w : World} {g : Nat} {L : List Nat} (h : Own w0 g L w) : Own w0 g L w.drew := ⟨h.own, h.below.drew⟩
theorem RowAt.drew {w : World} {b cap : Nat} {L : List Nat} (h : RowAt w b cap L) : RowAt w.drew b cap L := ⟨h.le, h.max, h.lt, h.cell, h.dig⟩

/-- What a function over digits hands back: a row that reads as n, of at most m digits; of old memory nothing has turned. -/
def Gave (n m : Nat) (w : World) (e : Ending) (w' : World) : Prop :=
  ∃ b cap L, e = .returned (.slice (some ⟨b, 0, none⟩) L.length cap) ∧ RowAt w' b cap L ∧ dval 65536 L = n ∧ L.length ≤ m ∧ Below w.heap.size w w'

/-- Is A's number above B's? -/
def abv (A B : List Nat) : Bool := decide (dval 65536 B < dval 65536 A)
set_option maxRecDepth 20000 in
theorem above_any (ba bb ca cb : Nat) (A B : List Nat) (w : World) (rA : RowAt w ba ca A) (rB : RowAt w bb cb B) (hA : A.length ≤ 1000) (hB : B.length ≤ 1000) :
    Calls Try.prog 69 #[.slice (some ⟨ba, 0, none⟩) A.length ca, .slice (some ⟨bb, 0, none⟩) B.length cb] w fun e w' => e = .returned (.bool (abv A B)) ∧ w = w' := by
  have RA := Lib.hid rA.cell
  have RB := Lib.hid rB.cell
  have DA := Lib.hid rA.dig
  have DB := Lib.hid rB.dig
  have la := rA.lt
  have lb := rB.lt
  have ma := rA.le
  have mb := rB.le
  have mxa := rA.max
  have mxb := rB.max
  unfold maxLen at mxa mxb
  have hcase : ∃ n : Nat, (n = max A.length B.length) ∧ ((A.length : Int) < B.length ∧ n = B.length ∨ ¬ (A.length : Int) < B.length ∧ n = A.length) := ⟨_, rfl, by omega⟩
  obtain ⟨n, hn, hc⟩ := hcase
  have HS := Lib.hid (same_start A B)
  rw [← hn] at HS
  clear rA rB hn
  rcases hc with ⟨hc, rfl⟩ | ⟨hc, rfl⟩
  all_goals
    go_enter Try.func69, Try.ntmps69
    go_wp2
    go_loop [5] (fun v => ∃ k : Nat, k ≤ 1000 ∧ Hid (SameFrom A B k) ∧ v = .int .i64 ((k : Int) - 1)) (fun v => (intOf v + 1).toNat)
    case atStart => first | exact ⟨B.length, hB, HS, rfl⟩ | exact ⟨A.length, hA, HS, rfl⟩
    case round =>
      obtain ⟨k, hk, HK, rfl⟩ := hrel
      clear hc HS
      by_cases h0 : k = 0
      · subst h0
        have HNO := Lib.hid (above_no (β := 65536) HK.out)
        go_wp2
        go_ret
        exact ⟨by rw [show abv A B = false from HNO.out]; rfl, rfl⟩
      · obtain ⟨j, rfl⟩ : ∃ j, k = j + 1 := ⟨k - 1, by omega⟩
        have HE := Lib.hid (fun h => same_step (k := j) HK.out h)
        have HN : Hid (A.getD j 0 ≠ B.getD j 0 → abv A B = decide (B.getD j 0 < A.getD j 0)) := fun h => above_at (β := 65536) (by omega) DA.out DB.out HK.out h
        have e1 : (((j + 1 : Nat) : Int) - 1) = j := by omega
        have hxb := getD_bd (β := 65536) (by omega) DA.out j
        have hyb := getD_bd (β := 65536) (by omega) DB.out j
        rw [e1]
        clear h0 e1 HK
        have hca : (j < A.length → w.cell? ⟨ba, j, none⟩ = some (.int .u32 (A.getD j 0 : Nat))) := fun h => by rw [getD_lt h]; exact RA.out j h
        have hcb : (j < B.length → w.cell? ⟨bb, j, none⟩ = some (.int .u32 (B.getD j 0 : Nat))) := fun h => by rw [getD_lt h]; exact RB.out j h
        have hza : (¬ j < A.length → A.getD j 0 = 0) := getD_out
        have hzb : (¬ j < B.length → B.getD j 0 = 0) := getD_out
        by_cases hxy : A.getD j 0 = B.getD j 0
        · have HE2 := Lib.hid (HE.out hxy)
          rw [hxy] at hca hza hxb
          clear HE HN hxy
          generalize B.getD j 0 = y at *
          by_cases hja : j < A.length <;> by_cases hjb : j < B.length
          · have hca' := hca hja
            have hcb' := hcb hjb
            clear hca hcb hza hzb
            go_wp2
            go_round
            case rel => exact ⟨j, by omega, HE2, rfl⟩
            case measure => simp [intOf]
          · obtain rfl := hzb hjb
            have hca' := hca hja
            clear hca hcb hza hzb
            go_wp2
            go_round
            case rel => exact ⟨j, by omega, HE2, rfl⟩
            case measure => simp [intOf]
          · obtain rfl := hza hja
            have hcb' := hcb hjb
            clear hca hcb hza hzb
            go_wp2
            go_round
            case rel => exact ⟨j, by omega, HE2, rfl⟩
            case measure => simp [intOf]
          · clear hca hcb hza hzb
            go_wp2
            go_round
            case rel => exact ⟨j, by omega, HE2, rfl⟩
            case measure => simp [intOf]
        · have HN2 := Lib.hid (HN.out hxy)
          clear HE HN
          generalize A.getD j 0 = x at *
          generalize B.getD j 0 = y at *
          by_cases hja : j < A.length <;> by_cases hjb : j < B.length
          · have hca' := hca hja
            have hcb' := hcb hjb
            have hn1 : ((x : Int) == y) = false := by rw [beq_eq_false_iff_ne]; omega
            have hn2 : ¬ (x : Int) = y := by omega
            clear hca hcb hza hzb hxy
            go_wp2
            go_ret
            exact ⟨ret_b (by rw [HN2.out] <;> simp), rfl⟩
          · obtain rfl := hzb hjb
            have hca' := hca hja
            have hn1 : ((x : Int) == 0) = false := by rw [beq_eq_false_iff_ne]; omega
            have hn2 : ¬ (x : Int) = 0 := by omega
            clear hca hcb hza hzb hxy
            go_wp2
            go_ret
            exact ⟨ret_b (by rw [HN2.out] <;> simp), rfl⟩
          · obtain rfl := hza hja
            have hcb' := hcb hjb
            have hn1 : ((0 : Int) == y) = false := by rw [beq_eq_false_iff_ne]; omega
            have hn2 : ¬ (0 : Int) = y := by omega
            clear hca hcb hza hzb hxy
            go_wp2
            go_ret
            exact ⟨ret_b (by rw [HN2.out] <;> simp), rfl⟩
          · exfalso
            exact hxy ((hza hja).trans (hzb hjb).symm)
end Go.Proofs.Ytoihdhmgjfoclaa
