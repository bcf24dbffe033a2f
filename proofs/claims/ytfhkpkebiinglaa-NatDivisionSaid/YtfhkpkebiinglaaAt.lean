/-
  The walk of at: a limb, or nought behind the end.
-/
import Derived.Test.YtfhkpkebiinglaaSmall
namespace Go.Proofs.Ytfhkpkebiinglaa
open Go.RowKit

theorem at_any (ao : Option Addr) (n cap : Nat) (L : List Nat) (hn : L.length = n) (i : Nat) (w : World) (h : RowAt w .u32 ao cap L) :
    Calls Try.prog 79 #[.slice ao n cap, .int .i64 (i : Int)] w fun e w' => e = .returned (.int .u32 (L.getD i 0 : Nat)) ∧ w = w' := by
  have hm := h.max
  have hle := h.le
  unfold maxLen at hm
  by_cases hlt : i < L.length
  · obtain ⟨b, rfl, hb, hc⟩ := h.cell i hlt
    rw [getD_lt hlt]
    generalize L[i] = x at *
    clear h
    go_enter Try.func79, Try.ntmps79
    go_wp2
    go_ret
    exact ⟨rfl, rfl⟩
  · have e : L.getD i 0 = 0 := by simp [List.getD, Nat.le_of_not_lt hlt]
    rw [e]
    clear h
    go_enter Try.func79, Try.ntmps79
    go_wp2
    go_ret
    exact ⟨rfl, rfl⟩
end Go.Proofs.Ytfhkpkebiinglaa
