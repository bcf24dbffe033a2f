/- NatSums: the join, under way. -/
import Derived.Test.YtfhkpkebiinglaaNse
namespace Go.Proofs.Ytfhkpkebiinglaa
open Go.RowKit
theorem endN_is (N : Nat) : endN N = .tuple #[.string (endS N), .int .i64 (endE N)] := by unfold endN; rfl
theorem subN_is (x y : Nat) : ∃ s e, subN x y = .tuple #[.string s, .int .i64 e] := by
  unfold subN
  by_cases h : x < y
  · rw [if_pos h]; exact ⟨_, _, rfl⟩
  · rw [if_neg h, endN_is]; exact ⟨_, _, rfl⟩
theorem sums_list (a b : ByteArray) (ha : a.size ≤ maxLen) (hb : b.size ≤ maxLen) (S : List ByteArray) (n b0 off cap : Nat) (hn : S.length = n) (hn0 : 0 < n) (hnc : n ≤ cap) (hcm : cap ≤ maxLen) (hl16 : n * 16 ≤ 140737488351232) (hS : ∀ s ∈ S, s.size ≤ maxLen) (w : World) (hb0 : b0 < w.heap.size)
    (hcell : ∀ i (h : i < S.length), w.cell? ⟨b0, off + i, none⟩ = some (.string S[i])) :
    Calls Try.prog 9 #[.string a, .string b, .slice (some ⟨b0, off, none⟩) n cap] w fun e w' => e = .returned (.bool true) ∧ Below w.heap.size w w' := by
  obtain ⟨s2, e2, h2⟩ := subN_is (bval a) (bval b)
  have h32 := fun w => Add_any a b w ha hb
  have h33 := fun w => Sub_any a b w ha hb
  have h34 := fun (w : World) (g cap : Nat) (h : VRow w (some ⟨g, 0, none⟩) cap (S.map .string)) => Sum_any (some ⟨g, 0, none⟩) n cap S hn (by omega) w hS h
  have h21 := fun w t ht => refused_two a b w ha hb t ht
  have h21l : ∀ w : World, (∀ i (h : i < S.length), w.cell? ⟨b0, off + i, none⟩ = some (.string S[i])) → Calls Try.prog 21 #[.slice (some ⟨b0, off, none⟩) n cap] w fun e w' => e = .returned (.bool (!decide (∀ s ∈ S, Ok s))) ∧ w = w' := fun w h => by
    subst hn
    exact refused_at ⟨b0, off, none⟩ cap S w hS hnc hcm (fun i hi => by rw [Addr.add_lit]; exact h i hi)
  by_cases hab : Ok a ∧ Ok b <;> by_cases hl : ∀ s ∈ S, Ok s
  · simp only [hab, and_self, if_true, endN_is, h2] at h32 h33
    rw [decide_eq_true hl] at h21l
    simp only [if_pos hl, endN_is] at h34
    have h35 := fun w => rAdd_any a b (by have := hab.1.1; omega) (by have := hab.2.1; omega) w
    have h36 := fun w => rSub_any a b hab.1 hab.2 w
    simp only [endN_is, h2] at h35 h36
    have h37 := fun (w : World) (g cap : Nat) (h : VRow w (some ⟨g, 0, none⟩) cap (S.map .string)) => rSum_any (some ⟨g, 0, none⟩) n cap S hn (by omega) w hl h
    simp only [endN_is] at h37
    exact sums_ff a b _ s2 _ _ e2 _ S n b0 off cap hn hn0 hnc hl16 h32 h33 h34 (fun w => h21 w false (by simp [hab])) h21l h35 h36 h37 w hb0 hcell
  · simp only [hab, and_self, if_true, endN_is, h2] at h32 h33
    rw [decide_eq_false hl] at h21l
    simp only [if_neg hl] at h34
    have h35 := fun w => rAdd_any a b (by have := hab.1.1; omega) (by have := hab.2.1; omega) w
    have h36 := fun w => rSub_any a b hab.1 hab.2 w
    simp only [endN_is, h2] at h35 h36
    exact sums_ft a b _ s2 ⟨#[]⟩ _ e2 0 S n b0 off cap hn hn0 hnc hl16 h32 h33 h34 (fun w => h21 w false (by simp [hab])) h21l h35 h36 w hb0 hcell
  · simp only [hab, if_false] at h32 h33
    rw [decide_eq_true hl] at h21l
    simp only [if_pos hl, endN_is] at h34
    have h37 := fun (w : World) (g cap : Nat) (h : VRow w (some ⟨g, 0, none⟩) cap (S.map .string)) => rSum_any (some ⟨g, 0, none⟩) n cap S hn (by omega) w hl h
    simp only [endN_is] at h37
    exact sums_tf a b ⟨#[]⟩ ⟨#[]⟩ _ 0 0 _ S n b0 off cap hn hn0 hnc hl16 h32 h33 h34 (fun w => h21 w true (by simp only [hab, decide_false]; rfl)) h21l h37 w hb0 hcell
  · simp only [hab, if_false] at h32 h33
    rw [decide_eq_false hl] at h21l
    simp only [if_neg hl] at h34
    exact sums_tt a b ⟨#[]⟩ ⟨#[]⟩ ⟨#[]⟩ 0 0 0 S n b0 off cap hn hn0 hnc hl16 h32 h33 h34 (fun w => h21 w true (by simp only [hab, decide_false]; rfl)) h21l w hb0 hcell
theorem sums_nil (a b : ByteArray) (ha : a.size ≤ maxLen) (hb : b.size ≤ maxLen) (w : World) :
    Calls Try.prog 9 #[.string a, .string b, .slice none 0 0] w fun e w' => e = .returned (.bool true) ∧ Below w.heap.size w w' := by
  obtain ⟨s2, e2, h2⟩ := subN_is (bval a) (bval b)
  have h32 := fun w => Add_any a b w ha hb
  have h33 := fun w => Sub_any a b w ha hb
  have h34 := fun (w : World) (g cap : Nat) (h : VRow w (some ⟨g, 0, none⟩) cap []) => Sum_any (some ⟨g, 0, none⟩) 0 cap [] rfl (by omega) w (by simp) h
  have h21 := fun w t ht => refused_two a b w ha hb t ht
  have h21l : ∀ w : World, Calls Try.prog 21 #[.slice none 0 0] w fun e w' => e = .returned (.bool false) ∧ w = w' := fun w => refused_nil w
  have h37 := fun w : World => rSum_any none 0 0 [] rfl (by omega) w (by simp) ⟨Nat.le_refl _, Nat.zero_le _, fun i hi => absurd hi (Nat.not_lt_zero _)⟩
  simp only [endN_is] at h37
  have hall : ∀ s ∈ ([] : List ByteArray), Ok s := by simp
  simp only [if_pos hall, endN_is] at h34
  by_cases hab : Ok a ∧ Ok b
  · simp only [hab, and_self, if_true, endN_is, h2] at h32 h33
    have h35 := fun w => rAdd_any a b (by have := hab.1.1; omega) (by have := hab.2.1; omega) w
    have h36 := fun w => rSub_any a b hab.1 hab.2 w
    simp only [endN_is, h2] at h35 h36
    exact sume_fn a b _ s2 _ _ e2 _ ⟨0, 0, none⟩ 0 h32 h33 h34 (fun w => h21 w false (by simp [hab])) h21l h37 h35 h36 w
  · simp only [hab, if_false] at h32 h33
    exact sume_tn a b ⟨#[]⟩ ⟨#[]⟩ _ 0 0 _ ⟨0, 0, none⟩ 0 h32 h33 h34 (fun w => h21 w true (by simp only [hab, decide_false]; rfl)) h21l h37 w
theorem sums_zero (a b : ByteArray) (ha : a.size ≤ maxLen) (hb : b.size ≤ maxLen) (p : Addr) (cap : Nat) (hcm : cap ≤ maxLen) (w : World) :
    Calls Try.prog 9 #[.string a, .string b, .slice (some p) 0 cap] w fun e w' => e = .returned (.bool true) ∧ Below w.heap.size w w' := by
  obtain ⟨s2, e2, h2⟩ := subN_is (bval a) (bval b)
  have h32 := fun w => Add_any a b w ha hb
  have h33 := fun w => Sub_any a b w ha hb
  have h34 := fun (w : World) (g cap : Nat) (h : VRow w (some ⟨g, 0, none⟩) cap []) => Sum_any (some ⟨g, 0, none⟩) 0 cap [] rfl (by omega) w (by simp) h
  have h21 := fun w t ht => refused_two a b w ha hb t ht
  have h21l : ∀ w : World, Calls Try.prog 21 #[.slice (some p) 0 cap] w fun e w' => e = .returned (.bool false) ∧ w = w' := fun w => refused_at p cap [] w (by simp) (Nat.zero_le _) hcm (fun i hi => absurd hi (Nat.not_lt_zero _))
  have h37 := fun w : World => rSum_any none 0 0 [] rfl (by omega) w (by simp) ⟨Nat.le_refl _, Nat.zero_le _, fun i hi => absurd hi (Nat.not_lt_zero _)⟩
  simp only [endN_is] at h37
  have hall : ∀ s ∈ ([] : List ByteArray), Ok s := by simp
  simp only [if_pos hall, endN_is] at h34
  by_cases hab : Ok a ∧ Ok b
  · simp only [hab, and_self, if_true, endN_is, h2] at h32 h33
    have h35 := fun w => rAdd_any a b (by have := hab.1.1; omega) (by have := hab.2.1; omega) w
    have h36 := fun w => rSub_any a b hab.1 hab.2 w
    simp only [endN_is, h2] at h35 h36
    exact sume_fs a b _ s2 _ _ e2 _ p cap h32 h33 h34 (fun w => h21 w false (by simp [hab])) h21l h37 h35 h36 w
  · simp only [hab, if_false] at h32 h33
    exact sume_ts a b ⟨#[]⟩ ⟨#[]⟩ _ 0 0 _ p cap h32 h33 h34 (fun w => h21 w true (by simp only [hab, decide_false]; rfl)) h21l h37 w
end Go.Proofs.Ytfhkpkebiinglaa
