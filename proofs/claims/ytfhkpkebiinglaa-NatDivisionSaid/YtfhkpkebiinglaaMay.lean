/-
  May a number be: the program's test and the document's.
-/
import Derived.Test.YtfhkpkebiinglaaMem
import Derived.Test.YtfhkpkebiinglaaOpen
import Derived.Test.YtfhkpkebiinglaaShut
namespace Go.Proofs.Ytfhkpkebiinglaa
open Go.RowKit

/-- A number that may be. -/
def Ok (s : ByteArray) : Prop := s.size ≤ 16384 ∧ ∀ h : 0 < s.size, s[0] ≠ 0
instance (s : ByteArray) : Decidable (Ok s) := by unfold Ok; infer_instance
/-- A slice reads as these values. -/
structure VRow (w : World) (ao : Option Addr) (cap : Nat) (V : List Value) : Prop where
  le : V.length ≤ cap
  max : cap ≤ maxLen
  cell : ∀ i (h : i < V.length), ∃ b, ao = some ⟨b, 0, none⟩ ∧ b < w.heap.size ∧ w.cell? ⟨b, i, none⟩ = some V[i]

theorem size_ne (s : ByteArray) : (s = ⟨#[]⟩) ↔ s.size = 0 := by
  constructor
  · intro h; rw [h]; rfl
  · intro h
    cases s with | mk d =>
    have : d.size = 0 := h
    rw [Array.eq_empty_of_size_eq_zero this]

theorem toList_nil (s : ByteArray) : s.toList = [] ↔ s.size = 0 := by
  rw [ByteArray.toList_eq, ← List.length_eq_zero_iff, Array.length_toList]
  rfl
theorem isEmpty_size (s : ByteArray) : s.toList.isEmpty = decide (s.size = 0) := by
  have := toList_nil s
  by_cases h : s.size = 0
  · rw [this.2 h]; simp [h]
  · have h2 : s.toList ≠ [] := fun e => h (this.1 e)
    cases hl : s.toList with
    | nil => exact absurd hl h2
    | cons _ _ => simp [h]

theorem refMay_any (s : ByteArray) (w : World) (hs : s.size ≤ maxLen) :
    Calls Try.prog 62 #[.string s] w fun e w' => e = .returned (.bool (decide (Ok s))) ∧ w = w' := by
  unfold maxLen at hs
  have hE := isEmpty_size s
  have hN := toList_nil s
  by_cases h1 : s.size ≤ 16384
  · by_cases h2 : s.size = 0
    · have hr : Hid (decide (Ok s) = true) := by
        show _ = _
        simp only [decide_eq_true_eq]; exact ⟨h1, fun h => by omega⟩
      have h3 := hN.2 h2
      clear hE hN
      go_enter Try.func62, Try.ntmps62
      go_wp2
      go_ret
      exact ⟨by rw [hr.out]; simp, rfl⟩
    · have h3 : ¬ s.toList = [] := fun e => h2 (hN.1 e)
      have h4 : 0 < s.size := by omega
      have h5 : (s.toList.isEmpty) = false := by rw [hE]; simp [h2]
      have hr : Hid (decide (Ok s) = ((s[0].toNat : Int) != 0)) := by
        show _ = _
        by_cases hz : s[0] = 0
        · have hz2 : s[0].toNat = 0 := by rw [hz]; rfl
          rw [hz2]
          simp [Ok, h4, hz]
        · have hz2 : s[0].toNat ≠ 0 := fun e => hz (UInt8.toNat_inj.1 e)
          have hz3 : ((s[0].toNat : Int) != 0) = true := by simp; omega
          rw [hz3, decide_eq_true_eq]
          exact ⟨h1, fun _ => hz⟩
      clear hE hN
      go_enter Try.func62, Try.ntmps62
      go_wp2
      go_ret
      exact ⟨by rw [hr.out]; simp, rfl⟩
  · have hr : Hid (decide (Ok s) = false) := by
      show _ = _
      simp only [decide_eq_false_iff_not]; exact fun h => h1 h.1
    clear hE hN
    go_enter Try.func62, Try.ntmps62
    go_wp2
    go_ret
    exact ⟨by rw [hr.out]; simp, rfl⟩

theorem may_any (ao : Option Addr) (cap : Nat) (S : List ByteArray) (w : World) (hS : ∀ s ∈ S, s.size ≤ maxLen) (h : VRow w ao cap (S.map .string)) :
    Calls Try.prog 58 #[.slice ao S.length cap] w fun e w' => e = .returned (.bool (decide (∀ s ∈ S, Ok s))) ∧ w = w' := by
  have hm := h.max
  have hle := h.le
  rw [List.length_map] at hle
  unfold maxLen at hm hS
  have HC := Lib.hid h.cell
  have HS := Lib.hid hS
  clear h hS
  go_enter Try.func58, Try.ntmps58
  go_wp2
  go_loop [7] (fun v => ∃ i, i ≤ S.length ∧ v = .int .i64 ((i : Nat) : Int) ∧ ∀ j (hj : j < S.length), j < i → Ok S[j]) (fun v => S.length - (intOf v).toNat)
  case atStart => exact ⟨0, Nat.zero_le _, rfl, fun j _ h => absurd h (Nat.not_lt_zero _)⟩
  case round =>
    obtain ⟨i, hi, rfl, hok⟩ := hrel
    have HK := Lib.hid hok
    clear hok
    by_cases hlt : i < S.length
    · obtain ⟨b, rfl, hb, hcell⟩ := HC.out i (by rw [List.length_map]; exact hlt)
      rw [List.getElem_map] at hcell
      have hsz := HS.out _ (List.getElem_mem hlt)
      have HB := Lib.hid (fun (h : ¬ Ok S[i]) => (by simp only [decide_eq_false_iff_not]; exact fun hh => h (hh _ (List.getElem_mem hlt)) : decide (∀ s ∈ S, Ok s) = false))
      have HG := Lib.hid (fun (h : Ok S[i]) j (hj : j < S.length) (h2 : j < i + 1) => (by
        by_cases e : j = i
        · subst e; exact h
        · exact HK.out j hj (by omega) : Ok S[j]))
      generalize S[i] = s at hcell hsz HB HG
      have hE := isEmpty_size s
      have hN := toList_nil s
      by_cases h1 : s.size ≤ 16384
      · by_cases h2 : s.size = 0
        · have hr : Ok s := ⟨h1, fun h => by omega⟩
          have HG2 := Lib.hid (HG.out hr)
          have h3 := hN.2 h2
          have h5 : s.toList.isEmpty = true := by rw [hE]; simp [h2]
          clear hE hN hr
          go_wp2
          all_goals (go_round; (case rel => exact ⟨i + 1, by omega, by go_num, HG2.out⟩); (case measure => simp [intOf]; omega))
        · have h3 : ¬ s.toList = [] := fun e => h2 (hN.1 e)
          have h4 : 0 < s.size := by omega
          have h5 : s.toList.isEmpty = false := by rw [hE]; simp [h2]
          by_cases hz : s[0] = 0
          · have hr : ¬ Ok s := fun h => h.2 h4 hz
            have HB2 := Lib.hid (HB.out hr)
            have hz2 : s[0].toNat = 0 := by rw [hz]; rfl
            clear hE hN hr hz
            go_wp2
            go_ret
            exact ⟨by rw [HB2.out]; rfl, rfl⟩
          · have hr : Ok s := ⟨h1, fun _ => hz⟩
            have HG2 := Lib.hid (HG.out hr)
            have hz2 : s[0].toNat ≠ 0 := fun e => hz (UInt8.toNat_inj.1 e)
            have hz3 : ((s[0].toNat : Int) == 0) = false := by simpa using hz2
            clear hE hN hr hz
            go_wp2
            all_goals (go_round; (case rel => exact ⟨i + 1, by omega, by go_num, HG2.out⟩); (case measure => simp [intOf]; omega))
      · have hr : ¬ Ok s := fun h => h1 h.1
        have HB2 := Lib.hid (HB.out hr)
        clear hE hN hr
        go_wp2
        go_ret
        exact ⟨by rw [HB2.out]; rfl, rfl⟩
    · have hie : i = S.length := by omega
      subst hie
      have hT : decide (∀ s ∈ S, Ok s) = true := by
        rw [decide_eq_true_eq]
        intro s hs
        obtain ⟨j, hj, rfl⟩ := List.getElem_of_mem hs
        exact HK.out j hj hj
      have HT := Lib.hid hT
      clear hT
      go_wp2
      go_ret
      exact ⟨by rw [HT.out]; rfl, rfl⟩

theorem refused_any (ao : Option Addr) (cap : Nat) (S : List ByteArray) (w : World) (hS : ∀ s ∈ S, s.size ≤ maxLen) (h : VRow w ao cap (S.map .string)) :
    Calls Try.prog 21 #[.slice ao S.length cap] w fun e w' => e = .returned (.bool (!decide (∀ s ∈ S, Ok s))) ∧ w = w' := by
  have hm := h.max
  have hle := h.le
  rw [List.length_map] at hle
  have HC := Lib.hid h.cell
  have HS := Lib.hid hS
  unfold maxLen at hm
  clear h hS
  go_enter Try.func21, Try.ntmps21
  go_wp2
  go_loop [3] (fun v => ∃ i, i ≤ S.length ∧ v = .int .i64 ((i : Nat) : Int) ∧ ∀ j (hj : j < S.length), j < i → Ok S[j]) (fun v => S.length - (intOf v).toNat)
  case atStart => exact ⟨0, Nat.zero_le _, rfl, fun j _ h => absurd h (Nat.not_lt_zero _)⟩
  case round =>
    obtain ⟨i, hi, rfl, hok⟩ := hrel
    have HK := Lib.hid hok
    clear hok
    by_cases hlt : i < S.length
    · obtain ⟨b, rfl, hb, hcell⟩ := HC.out i (by rw [List.length_map]; exact hlt)
      rw [List.getElem_map] at hcell
      have HM := Lib.hid (refMay_any S[i] w (HS.out _ (List.getElem_mem hlt)))
      have HB := Lib.hid (fun (h : ¬ Ok S[i]) => (by simp only [decide_eq_false_iff_not]; exact fun hh => h (hh _ (List.getElem_mem hlt)) : decide (∀ s ∈ S, Ok s) = false))
      have HG := Lib.hid (fun (h : Ok S[i]) j (hj : j < S.length) (h2 : j < i + 1) => (by
        by_cases e : j = i
        · subst e; exact h
        · exact HK.out j hj (by omega) : Ok S[j]))
      generalize S[i] = s at hcell HM HB HG
      by_cases hs : Ok s
      · have HG2 := Lib.hid (HG.out hs)
        rw [decide_eq_true hs] at HM
        clear hs
        go_wp2_with (go_at_call 62; refine HM.out.mono ?_; rintro e w' ⟨rfl, rfl⟩)
        all_goals (go_round; (case rel => exact ⟨i + 1, by omega, by go_num, HG2.out⟩); (case measure => simp [intOf]; omega))
      · have HB2 := Lib.hid (HB.out hs)
        rw [decide_eq_false hs] at HM
        clear hs
        go_wp2_with (go_at_call 62; refine HM.out.mono ?_; rintro e w' ⟨rfl, rfl⟩)
        go_ret
        exact ⟨by rw [HB2.out]; rfl, rfl⟩
    · have hie : i = S.length := by omega
      subst hie
      have hT : decide (∀ s ∈ S, Ok s) = true := by
        rw [decide_eq_true_eq]
        intro s hs
        obtain ⟨j, hj, rfl⟩ := List.getElem_of_mem hs
        exact HK.out j hj hj
      have HT := Lib.hid hT
      clear hT
      go_wp2
      go_ret
      exact ⟨by rw [HT.out]; rfl, rfl⟩
end Go.Proofs.Ytfhkpkebiinglaa
