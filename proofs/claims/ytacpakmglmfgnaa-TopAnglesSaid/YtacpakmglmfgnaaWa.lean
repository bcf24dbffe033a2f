/-
  The walks of wide: cut, laid, SetUint64, NewInt.
-/
import Derived.Test.YtacpakmglmfgnaaNa
namespace Go.Proofs.Ytacpakmglmfgnaa
open Go.RowKit

theorem RowAt.take {w : World} {k : IntKind} {ao : Option Addr} {cap : Nat} {L : List Nat} (h : RowAt w k ao cap L) (n : Nat) : RowAt w k ao cap (L.take n) := by
  refine ⟨by rw [List.length_take]; exact Nat.le_trans (Nat.min_le_right ..) h.le, h.max, fun e => ?_, fun i hi => ?_⟩
  · obtain ⟨a, b⟩ := h.nil e
    rw [a]; exact ⟨by simp, b⟩
  · have hi2 : i < L.length := by rw [List.length_take] at hi; omega
    obtain ⟨b, e, hb, hc⟩ := h.cell i hi2
    exact ⟨b, e, hb, by rw [List.getElem_take]; exact hc⟩
/-- A small number's digits. -/
def D1 (x : Nat) : List Nat := if x = 0 then [] else [x]
theorem D1_digs {x : Nat} (h : x < 4294967296) : digs 4294967296 x = D1 x := by
  unfold D1
  by_cases h0 : x = 0
  · rw [if_pos h0, h0]; rfl
  · rw [if_neg h0, digs_pos (by omega) h0, Nat.mod_eq_of_lt h, Nat.div_eq_of_lt h]; rfl
set_option maxRecDepth 20000 in
theorem wcut_any (ao : Option Addr) (cap : Nat) (L : List Nat) (hL : ∀ d ∈ L, d < 4294967296) (w : World) (h : RowAt w .u32 ao cap L) :
    Calls Try.prog 54 #[.slice ao L.length cap] w fun e w' => e = .returned (.slice ao (digs 4294967296 (dval 4294967296 L)).length cap) ∧ w = w' := by
  have hm := h.max
  have hle := h.le
  unfold maxLen at hm
  cases ao with
  | none =>
    obtain ⟨rfl, rfl⟩ := h.nil rfl
    go_enter Try.func54, Try.ntmps54
    go_wp2
    go_loop [0] (fun v => v = .slice none 0 0) (fun _ => 0)
    case atStart => rfl
    case round =>
      subst hrel
      go_wp2
      go_ret
      exact ⟨rfl, rfl⟩
  | some a =>
    have H := Lib.hid h.cell
    have HL := Lib.hid hL
    clear h hL
    go_enter Try.func54, Try.ntmps54
    go_wp2
    go_loop [0] (fun v => ∃ k, CutAt L k ∧ v = .slice (some a) k cap) (fun v => match v with | .slice _ n _ => n | _ => 0)
    case atStart => exact ⟨L.length, ⟨Nat.le_refl _, fun i hi => by simp [List.getD, hi]⟩, rfl⟩
    case round =>
      obtain ⟨k, hc, rfl⟩ := hrel
      have hk := hc.1
      have HC := Lib.hid hc
      clear hc
      by_cases h0 : k = 0
      · subst h0
        have E := Lib.hid (HC.out.stop (B := 4294967296) (by omega) HL.out (.inl rfl))
        go_wp2
        go_ret
        exact ⟨by rw [← E.out]; rfl, rfl⟩
      · have hk1 : k - 1 < L.length := by omega
        obtain ⟨b, rfl, hb, hcell⟩ : ∃ b, a = ⟨b, 0, none⟩ ∧ b < w.heap.size ∧ w.cell? ⟨b, k - 1, none⟩ = some (.int .u32 (L[k - 1] : Nat)) := by
          obtain ⟨b, e, h1, h2⟩ := H.out (k - 1) hk1
          exact ⟨b, by cases e; rfl, h1, h2⟩
        have hkz : (0 : Int) < k := by omega
        by_cases hz : L[k - 1] = 0
        · have hC : Hid (CutAt L (k - 1)) := by
            refine ⟨by omega, fun i hi => ?_⟩
            by_cases hik : i = k - 1
            · subst hik; rw [getD_lt hk1]; exact hz
            · exact HC.out.2 i (by omega)
          rw [hz] at hcell
          clear hz
          go_wp2
          go_round
          case rel => exact ⟨k - 1, hC.out, rfl⟩
          case measure => simp; omega
        · have E := Lib.hid (HC.out.stop (B := 4294967296) (by omega) HL.out (.inr (by rw [getD_lt hk1]; exact hz)))
          have hz' : ((L[k - 1] : Int) == 0) = false := by simpa using hz
          generalize L[k - 1] = d at hcell hz'
          clear hz
          go_wp2
          all_goals (go_ret; exact ⟨by rw [← E.out]; rfl, rfl⟩)
end Go.Proofs.Ytacpakmglmfgnaa
