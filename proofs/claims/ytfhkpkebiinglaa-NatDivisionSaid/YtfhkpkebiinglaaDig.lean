/-
  Whole numbers and their digits to a base, the lowest first. No program in sight.
-/
import Derived.KernelRfl
namespace Go.Proofs.Ytfhkpkebiinglaa

/-- The number that these digits make. -/
def dval (B : Nat) : List Nat → Nat
  | [] => 0
  | d :: l => d + B * dval B l

/-- A number's digits, no nought at the end; 'f' bounds how many. -/
def digsF (B : Nat) : Nat → Nat → List Nat
  | 0, _ => []
  | f + 1, n => if n = 0 then [] else n % B :: digsF B f (n / B)
def digs (B n : Nat) : List Nat := digsF B n n

theorem dval_append (B : Nat) (a b : List Nat) : dval B (a ++ b) = dval B a + B ^ a.length * dval B b := by
  induction a with
  | nil => simp [dval]
  | cons d a ih =>
    simp only [List.cons_append, dval, List.length_cons, ih, Nat.pow_succ]
    rw [Nat.mul_add, Nat.add_assoc]
    congr 2
    rw [← Nat.mul_assoc, Nat.mul_comm B]

theorem dval_snoc (B : Nat) (a : List Nat) (d : Nat) : dval B (a ++ [d]) = dval B a + B ^ a.length * d := by
  rw [dval_append]; simp [dval]

theorem dval_lt (B : Nat) (l : List Nat) (h : ∀ d ∈ l, d < B) : dval B l < B ^ l.length := by
  induction l with
  | nil => simp [dval]
  | cons d l ih =>
    have h1 := ih fun x hx => h x (by simp [hx])
    have h2 := h d (by simp)
    simp only [dval, List.length_cons, Nat.pow_succ]
    have h3 : dval B l + 1 ≤ B ^ l.length := h1
    calc d + B * dval B l < B + B * dval B l := by omega
      _ = B * (dval B l + 1) := by rw [Nat.mul_add]; omega
      _ ≤ B * B ^ l.length := Nat.mul_le_mul_left _ h3
      _ = _ := Nat.mul_comm ..

theorem dval_zero (B : Nat) (l : List Nat) (h : dval B l = 0) (hB : 0 < B) : ∀ d ∈ l, d = 0 := by
  induction l with
  | nil => intro d hd; cases hd
  | cons x l ih =>
    simp only [dval] at h
    have h1 : x = 0 := by omega
    have h2 : B * dval B l = 0 := by omega
    have h3 : dval B l = 0 := by
      rcases Nat.mul_eq_zero.1 h2 with h | h
      · omega
      · exact h
    intro d hd
    rcases List.mem_cons.1 hd with rfl | hd
    · exact h1
    · exact ih h3 d hd

theorem digsF_enough {B : Nat} (hB : 2 ≤ B) : ∀ f g n, n ≤ f → n ≤ g → digsF B f n = digsF B g n := by
  intro f
  induction f with
  | zero =>
    intro g n h _
    have : n = 0 := by omega
    subst this
    cases g <;> simp [digsF]
  | succ f ih =>
    intro g n hf hg
    by_cases hn : n = 0
    · subst hn; cases g <;> simp [digsF]
    · cases g with
      | zero => omega
      | succ g =>
        simp only [digsF, if_neg hn]
        have : n / B ≤ n / 2 := Nat.div_le_div_left hB (by omega)
        rw [ih g (n / B) (by omega) (by omega)]

theorem digs_zero (B : Nat) : digs B 0 = [] := rfl
theorem digs_pos {B : Nat} (hB : 2 ≤ B) {n : Nat} (hn : n ≠ 0) : digs B n = n % B :: digs B (n / B) := by
  obtain ⟨m, rfl⟩ : ∃ m, n = m + 1 := ⟨n - 1, by omega⟩
  unfold digs
  simp only [digsF, if_neg hn]
  have : (m + 1) / B ≤ (m + 1) / 2 := Nat.div_le_div_left hB (by omega)
  rw [digsF_enough hB m ((m + 1) / B) _ (by omega) (Nat.le_refl _)]

theorem digs_induct {B : Nat} (hB : 2 ≤ B) {P : Nat → Prop} (h0 : P 0) (h : ∀ n, n ≠ 0 → P (n / B) → P n) (n : Nat) : P n := by
  induction n using Nat.strongRecOn with
  | _ n ih =>
    by_cases hn : n = 0
    · subst hn; exact h0
    · exact h n hn (ih _ (Nat.lt_of_le_of_lt (Nat.div_le_div_left hB (by omega)) (by omega)))

theorem dval_digs {B : Nat} (hB : 2 ≤ B) (n : Nat) : dval B (digs B n) = n := by
  induction n using digs_induct hB with
  | h0 => rfl
  | h n hn ih => rw [digs_pos hB hn, dval, ih]; exact Nat.mod_add_div n B

theorem digs_lt {B : Nat} (hB : 2 ≤ B) (n : Nat) : ∀ d ∈ digs B n, d < B := by
  induction n using digs_induct hB with
  | h0 => intro d hd; cases hd
  | h n hn ih =>
    rw [digs_pos hB hn]
    intro d hd
    rcases List.mem_cons.1 hd with rfl | hd
    · exact Nat.mod_lt _ (by omega)
    · exact ih d hd

/-- Digits without a nought at the end are the number's own. -/
theorem digs_dval {B : Nat} (hB : 2 ≤ B) (l : List Nat) (h : ∀ d ∈ l, d < B) (hl : l.getLast? ≠ some 0) : digs B (dval B l) = l := by
  induction l with
  | nil => rfl
  | cons d l ih =>
    have h1 := ih (fun x hx => h x (by simp [hx])) (by
      cases l with
      | nil => simp
      | cons y l => simpa using hl)
    have h2 := h d (by simp)
    have hne : dval B (d :: l) ≠ 0 := by
      intro e
      have hz := dval_zero B _ e (by omega)
      apply hl
      cases hg : (d :: l).getLast? with
      | none => simp at hg
      | some x => rw [hz x (List.mem_of_getLast? hg)]
    rw [digs_pos hB hne]
    simp only [dval]
    rw [Nat.add_mul_mod_self_left, Nat.mod_eq_of_lt h2, Nat.add_mul_div_left _ _ (by omega), Nat.div_eq_of_lt h2, Nat.zero_add, h1]

/-- Noughts at the end make nothing. -/
theorem dval_zeros (B : Nat) (l : List Nat) (k : Nat) : dval B (l ++ List.replicate k 0) = dval B l := by
  rw [dval_append]
  have : dval B (List.replicate k 0) = 0 := by
    induction k with
    | zero => rfl
    | succ k ih => rw [List.replicate_succ, dval, ih]; simp
  rw [this]; simp

theorem digs_len {B : Nat} (hB : 2 ≤ B) (n k : Nat) : (digs B n).length ≤ k ↔ n < B ^ k := by
  constructor
  · intro h
    have := dval_lt B _ (digs_lt hB n)
    rw [dval_digs hB] at this
    exact Nat.lt_of_lt_of_le this (Nat.pow_le_pow_right (by omega) h)
  · induction n using digs_induct hB generalizing k with
    | h0 => intro _; simp [digs_zero]
    | h n hn ih =>
      intro h
      cases k with
      | zero => simp at h; omega
      | succ k =>
        rw [digs_pos hB hn, List.length_cons]
        have := ih k ((Nat.div_lt_iff_lt_mul (by omega)).2 (by rwa [Nat.pow_succ] at h))
        omega
theorem digs_getLast {B : Nat} (hB : 2 ≤ B) (n : Nat) : (digs B n).getLast? ≠ some 0 := by
  induction n using digs_induct hB with
  | h0 => simp [digs_zero]
  | h n hn ih =>
    rw [digs_pos hB hn]
    cases hd : digs B (n / B) with
    | nil =>
      have h0 : n / B = 0 := by
        have := dval_digs hB (n / B); rw [hd] at this; exact this.symm
      have hlt : n < B := by
        rcases Nat.lt_or_ge n B with h | h
        · exact h
        · have := Nat.div_pos h (show 0 < B by omega); omega
      simp [Nat.mod_eq_of_lt hlt, hn]
    | cons y l => rw [hd] at ih; simpa using ih
theorem digs_nil {B : Nat} (hB : 2 ≤ B) {n : Nat} : digs B n = [] ↔ n = 0 := by
  constructor
  · intro h; have := dval_digs hB n; rw [h] at this; exact this.symm
  · rintro rfl; rfl

/-- The digits of k from the i-th on: the quotient. -/
theorem dval_drop {B : Nat} (l : List Nat) (h : ∀ d ∈ l, d < B) (k : Nat) : dval B (l.drop k) = dval B l / B ^ k := by
  by_cases hk : k ≤ l.length
  · have e := dval_append B (l.take k) (l.drop k)
    rw [List.take_append_drop, List.length_take, Nat.min_eq_left hk] at e
    have hlt := dval_lt B (l.take k) fun d hd => h d (List.mem_of_mem_take hd)
    rw [List.length_take, Nat.min_eq_left hk] at hlt
    rw [e, Nat.add_mul_div_left _ _ (by omega), Nat.div_eq_of_lt hlt, Nat.zero_add]
  · rw [List.drop_of_length_le (by omega)]
    have hlt := dval_lt B l h
    rcases Nat.eq_zero_or_pos B with hB | hB
    · cases l with
      | nil => simp [dval]
      | cons d l => have := h d (by simp); omega
    · rw [Nat.div_eq_of_lt (Nat.lt_of_lt_of_le hlt (Nat.pow_le_pow_right hB (by omega)))]; rfl
theorem dval_take {B : Nat} (l : List Nat) (h : ∀ d ∈ l, d < B) (k : Nat) : dval B (l.take k) = dval B l % B ^ k := by
  by_cases hk : k ≤ l.length
  · have e := dval_append B (l.take k) (l.drop k)
    rw [List.take_append_drop, List.length_take, Nat.min_eq_left hk] at e
    have hlt := dval_lt B (l.take k) fun d hd => h d (List.mem_of_mem_take hd)
    rw [List.length_take, Nat.min_eq_left hk] at hlt
    rw [e, Nat.add_mul_mod_self_left, Nat.mod_eq_of_lt hlt]
  · rw [List.take_of_length_le (by omega)]
    have hlt := dval_lt B l h
    rcases Nat.eq_zero_or_pos B with hB | hB
    · cases l with
      | nil => simp [dval]
      | cons d l => have := h d (by simp); omega
    · rw [Nat.mod_eq_of_lt (Nat.lt_of_lt_of_le hlt (Nat.pow_le_pow_right hB (by omega)))]
/-- One digit: the quotient's rest. -/
theorem dval_get {B : Nat} (l : List Nat) (h : ∀ d ∈ l, d < B) (k : Nat) : l.getD k 0 = dval B l / B ^ k % B := by
  rw [← dval_drop l h]
  have e : l.getD k 0 = (l.drop k).getD 0 0 := by simp [List.getD]
  rw [e]
  cases hd : l.drop k with
  | nil => simp [dval]
  | cons d t =>
    have : d < B := h d (List.mem_of_mem_drop (by rw [hd]; simp))
    simp [dval, Nat.add_mul_mod_self_left, Nat.mod_eq_of_lt this]
#print axioms dval_get
end Go.Proofs.Ytfhkpkebiinglaa
