/-
  Sums, differences, shifts of rows of digits: the plain laws.
-/
import Derived.Test.YtfhkpkebiinglaaPm
namespace Go.Proofs.Ytfhkpkebiinglaa

theorem dval_take_at (B : Nat) (L : List Nat) (k : Nat) : dval B (L.take (k + 1)) = dval B (L.take k) + B ^ k * L.getD k 0 := by
  by_cases h : k < L.length
  · rw [dval_take_succ B L k h]; simp [List.getD, h]
  · rw [List.take_of_length_le (by omega), List.take_of_length_le (by omega)]
    simp [List.getD, Nat.le_of_not_lt h]
theorem getD_small {β : Nat} {L : List Nat} (h : ∀ d ∈ L, d < β) (hβ : 0 < β) (i : Nat) : L.getD i 0 < β := by
  by_cases hi : i < L.length
  · simp only [List.getD]; rw [List.getElem?_eq_getElem hi]; exact h _ (List.getElem_mem hi)
  · simp [List.getD, Nat.le_of_not_lt hi]; exact hβ
theorem snoc_lt {β : Nat} {L : List Nat} (h : ∀ d ∈ L, d < β) {x : Nat} (hx : x < β) : ∀ d ∈ L ++ [x], d < β := by
  intro d hd
  rcases List.mem_append.1 hd with h1 | h1
  · exact h d h1
  · rw [List.mem_singleton.1 h1]; exact hx

structure AddAt (β : Nat) (A B : List Nat) (i c : Nat) (O : List Nat) : Prop where
  len : O.length = i
  lt : ∀ d ∈ O, d < β
  carry : c ≤ 1
  val : dval β O + c * β ^ i = dval β (A.take i) + dval β (B.take i)
theorem AddAt.start (β : Nat) (A B : List Nat) : AddAt β A B 0 0 [] := ⟨rfl, (fun d h => by cases h), Nat.zero_le _, by simp [dval]⟩
theorem AddAt.step {β : Nat} {A B : List Nat} {i c : Nat} {O : List Nat} (h : AddAt β A B i c O) (hβ : 0 < β) (hA : ∀ d ∈ A, d < β) (hB : ∀ d ∈ B, d < β) :
    AddAt β A B (i + 1) ((A.getD i 0 + B.getD i 0 + c) / β) (O ++ [(A.getD i 0 + B.getD i 0 + c) % β]) := by
  have ha := getD_small hA hβ i
  have hb := getD_small hB hβ i
  have hc := h.carry
  refine ⟨by simp [h.len], snoc_lt h.lt (Nat.mod_lt _ hβ), ?_, ?_⟩
  · have : (A.getD i 0 + B.getD i 0 + c) / β < 2 := (Nat.div_lt_iff_lt_mul hβ).2 (by omega)
    omega
  · rw [dval_snoc, dval_take_at, dval_take_at, h.len]
    have hv := h.val
    have hdm := Nat.div_add_mod (A.getD i 0 + B.getD i 0 + c) β
    generalize A.getD i 0 = a at *
    generalize B.getD i 0 = b at *
    generalize (a + b + c) / β = q at *
    generalize (a + b + c) % β = r at *
    have e1 : q * β ^ (i + 1) = β ^ i * (β * q) := by rw [Nat.pow_succ, Nat.mul_comm, Nat.mul_assoc]
    have e2 : β ^ i * (β * q + r) = β ^ i * (a + b + c) := by rw [hdm]
    rw [Nat.mul_add] at e2
    rw [Nat.mul_add, Nat.mul_add, Nat.mul_comm (β ^ i) c] at e2
    rw [e1]
    omega
theorem AddAt.leave {β : Nat} {A B : List Nat} {c : Nat} {O : List Nat} (hβ : 2 ≤ β) (h : AddAt β A B (max A.length B.length) c O) :
    (∀ d ∈ O ++ [c], d < β) ∧ dval β (O ++ [c]) = dval β A + dval β B ∧ (O ++ [c]).length = max A.length B.length + 1 := by
  refine ⟨snoc_lt h.lt (by have := h.carry; omega), ?_, by simp [h.len]⟩
  have := h.val
  rw [List.take_of_length_le (Nat.le_max_left _ _), List.take_of_length_le (Nat.le_max_right _ _)] at this
  rw [dval_snoc, h.len, Nat.mul_comm, this]

structure SubAt (β : Nat) (A B : List Nat) (i c : Nat) (O : List Nat) : Prop where
  len : O.length = A.length
  lt : ∀ d ∈ O, d < β
  upto : i ≤ A.length
  borrow : c ≤ 1
  val : dval β (A.take i) + c * β ^ i = dval β (O.take i) + dval β (B.take i)
theorem SubAt.start (β : Nat) (hβ : 0 < β) (A B : List Nat) : SubAt β A B 0 0 (List.replicate A.length 0) :=
  ⟨by simp, (fun d h => by rw [List.eq_of_mem_replicate h]; exact hβ), Nat.zero_le _, Nat.zero_le _, by simp [dval]⟩
theorem dval_take_set (β : Nat) (O : List Nat) (i d : Nat) (hi : i < O.length) : dval β ((O.set i d).take (i + 1)) = dval β (O.take i) + β ^ i * d := by
  rw [dval_take_at, List.take_set, List.set_eq_of_length_le (by simp; omega)]
  simp [List.getD, hi]
theorem SubAt.step {β : Nat} {A B : List Nat} {i c : Nat} {O : List Nat} (h : SubAt β A B i c O) (hi : i < A.length) (d c' : Nat) (hd : d < β) (hc' : c' ≤ 1)
    (e : A[i] + c' * β = d + B.getD i 0 + c) : SubAt β A B (i + 1) c' (O.set i d) := by
  refine ⟨by rw [List.length_set]; exact h.len, mem_set_lt h.lt hd, hi, hc', ?_⟩
  rw [dval_take_set β O i d (by rw [h.len]; exact hi), dval_take_at β B, dval_take_succ β A i hi]
  have hv := h.val
  generalize A[i] = a at *
  generalize B.getD i 0 = b at *
  have e1 : c' * β ^ (i + 1) = β ^ i * (c' * β) := by rw [Nat.pow_succ, Nat.mul_left_comm]
  have e2 : β ^ i * (a + c' * β) = β ^ i * (d + b + c) := by rw [e]
  rw [Nat.mul_add, Nat.mul_add, Nat.mul_add, Nat.mul_comm (β ^ i) c] at e2
  rw [e1]
  omega
theorem SubAt.leave {β : Nat} {A B : List Nat} {c : Nat} {O : List Nat} (h : SubAt β A B A.length c O) (hA : ∀ d ∈ A, d < β) (hB : ∀ d ∈ B, d < β) (hle : dval β B ≤ dval β A) :
    dval β O = dval β A - dval β B := by
  have hv := h.val
  rw [List.take_of_length_le (Nat.le_refl _), List.take_of_length_le (by rw [h.len]; exact Nat.le_refl _)] at hv
  have hb : dval β (B.take A.length) = dval β B := by
    rw [dval_take B hB, Nat.mod_eq_of_lt (Nat.lt_of_le_of_lt hle (dval_lt β A hA))]
  rw [hb] at hv
  have ho := dval_lt β O h.lt
  rw [h.len] at ho
  have hc := h.borrow
  rcases Nat.eq_zero_or_pos c with h0 | h0
  · subst h0; omega
  · have : c = 1 := by omega
    subst this; omega

/-- A shift up within a limb: p is 2 to the power. -/
structure LeftAt (β : Nat) (A : List Nat) (p i c : Nat) (O : List Nat) : Prop where
  len : O.length = i
  lt : ∀ d ∈ O, d < β
  carry : c < p
  val : dval β O + c * β ^ i = dval β (A.take i) * p
theorem LeftAt.start (β : Nat) (A : List Nat) (p : Nat) (hp : 0 < p) : LeftAt β A p 0 0 [] := ⟨rfl, (fun d h => by cases h), hp, by simp [dval]⟩
theorem LeftAt.step {β : Nat} {A : List Nat} {p i c : Nat} {O : List Nat} (h : LeftAt β A p i c O) (hβ : 0 < β) (hi : i < A.length) (hx : A[i] < β) :
    LeftAt β A p (i + 1) ((c + A[i] * p) / β) (O ++ [(c + A[i] * p) % β]) := by
  have hc := h.carry
  refine ⟨by simp [h.len], snoc_lt h.lt (Nat.mod_lt _ hβ), ?_, ?_⟩
  · rw [Nat.div_lt_iff_lt_mul hβ]
    have : (A[i] + 1) * p ≤ β * p := Nat.mul_le_mul_right _ hx
    rw [Nat.add_mul] at this
    rw [Nat.mul_comm p]
    omega
  · rw [dval_snoc, dval_take_succ β A i hi, h.len]
    have hv := h.val
    generalize A[i] = x at *
    have hdm := Nat.div_add_mod (c + x * p) β
    generalize (c + x * p) / β = q at *
    generalize (c + x * p) % β = r at *
    have e1 : q * β ^ (i + 1) = β ^ i * (β * q) := by rw [Nat.pow_succ, Nat.mul_comm, Nat.mul_assoc]
    have e2 : β ^ i * (β * q + r) = β ^ i * (c + x * p) := by rw [hdm]
    rw [Nat.mul_add, Nat.mul_add, Nat.mul_comm (β ^ i) c, ← Nat.mul_assoc (β ^ i) x] at e2
    rw [e1, Nat.add_mul]
    omega
theorem dval_pre (β : Nat) (k : Nat) (L : List Nat) : dval β (List.replicate k 0 ++ L) = β ^ k * dval β L := by
  rw [dval_append]
  have := dval_zeros β [] k
  simp only [List.nil_append] at this
  rw [this]
  simp [dval]
theorem LeftAt.leave {β : Nat} {A : List Nat} {p c : Nat} {O : List Nat} (h : LeftAt β A p A.length c O) : dval β (O ++ [c]) = dval β A * p := by
  have := h.val
  rw [List.take_of_length_le (Nat.le_refl _)] at this
  rw [dval_snoc, h.len, Nat.mul_comm, this]

/-- Digits given one by one. -/
theorem dval_all (β : Nat) (L : List Nat) (N : Nat) (h : ∀ j (hj : j < L.length), L[j] = N / β ^ j % β) : dval β L = N % β ^ L.length := by
  induction L generalizing N with
  | nil => simp [dval, Nat.mod_one]
  | cons d L ih =>
    have h0 := h 0 (by simp)
    simp at h0
    have h1 := ih (N / β) (fun j hj => by
      have := h (j + 1) (by simpa using hj)
      rw [Nat.pow_succ', ← Nat.div_div_eq_div_mul] at this
      simpa using this)
    rw [dval, h1, h0, List.length_cons, Nat.pow_succ', Nat.mod_mul]
/-- A shift down. -/
structure RightAt (β : Nat) (A : List Nat) (k s i : Nat) (O : List Nat) : Prop where
  from_ : k ≤ i
  len : O.length = i - k
  get : ∀ j (hj : j < O.length), O[j] = dval β A / (β ^ k * s) / β ^ j % β
theorem two_limbs {β : Nat} (L : List Nat) (h : ∀ d ∈ L, d < β) (i : Nat) : L.getD i 0 + L.getD (i + 1) 0 * β = dval β L / β ^ i % (β * β) := by
  rw [dval_get L h i, dval_get L h (i + 1), Nat.pow_succ, ← Nat.div_div_eq_div_mul, Nat.mod_mul, Nat.mul_comm β]
theorem RightAt.step {β : Nat} {A : List Nat} {k s t i : Nat} {O : List Nat} (h : RightAt β A k s i O) (hst : β = s * t) (hA : ∀ d ∈ A, d < β) :
    RightAt β A k s (i + 1) (O ++ [(A.getD i 0 + A.getD (i + 1) 0 * β) / s % β]) := by
  have hk := h.from_
  refine ⟨by omega, by simp [h.len]; omega, fun j hj => ?_⟩
  by_cases hj2 : j < O.length
  · rw [List.getElem_append_left hj2]; exact h.get j hj2
  · have hje : j = i - k := by rw [← h.len]; simp at hj; omega
    subst hje
    rw [List.getElem_append_right (by omega)]
    simp only [List.getElem_singleton]
    rw [two_limbs A hA i]
    have e1 : dval β A / (β ^ k * s) / β ^ (i - k) = dval β A / β ^ i / s := by
      rw [Nat.div_div_eq_div_mul, Nat.div_div_eq_div_mul]
      congr 1
      have : β ^ i = β ^ k * β ^ (i - k) := by rw [← Nat.pow_add]; congr 1; omega
      rw [this, Nat.mul_assoc, Nat.mul_assoc, Nat.mul_comm s]
    rw [e1]
    generalize dval β A / β ^ i = M
    have e2 : β * β = s * (t * β) := by rw [← Nat.mul_assoc, ← hst]
    rw [e2, Nat.mod_mul_right_div_self, Nat.mod_mul_left_mod]
theorem RightAt.leave {β : Nat} {A : List Nat} {k s : Nat} {O : List Nat} (h : RightAt β A k s (max k A.length) O) (hβ : 0 < β) (hA : ∀ d ∈ A, d < β) :
    dval β O = dval β A / (β ^ k * s) := by
  rw [dval_all β O _ h.get, Nat.mod_eq_of_lt]
  have hlt := dval_lt β A hA
  refine Nat.lt_of_le_of_lt (m := dval β A / β ^ k) ?_ ?_
  · rw [← Nat.div_div_eq_div_mul]; exact Nat.div_le_self _ _
  · rw [h.len, Nat.div_lt_iff_lt_mul (Nat.pow_pos hβ), ← Nat.pow_add]
    refine Nat.lt_of_lt_of_le hlt (Nat.pow_le_pow_right hβ (by omega))
end Go.Proofs.Ytfhkpkebiinglaa
