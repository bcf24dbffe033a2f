/-
  The product of two rows of digits, as the loops make it: the plain law.
-/
import Derived.Test.YtfhkpkebiinglaaDig
namespace Go.Proofs.Ytfhkpkebiinglaa

theorem dval_set (B : Nat) (L : List Nat) (j d : Nat) (h : j < L.length) : dval B (L.set j d) + L.getD j 0 * B ^ j = dval B L + d * B ^ j := by
  induction L generalizing j with
  | nil => simp at h
  | cons x L ih =>
    cases j with
    | zero => simp [dval]; omega
    | succ j =>
      have := ih j (by simpa using h)
      simp only [List.set_cons_succ, dval, List.getD_cons_succ, Nat.pow_succ]
      have e1 : L.getD j 0 * (B ^ j * B) = B * (L.getD j 0 * B ^ j) := by rw [← Nat.mul_assoc, Nat.mul_comm]
      have e2 : d * (B ^ j * B) = B * (d * B ^ j) := by rw [← Nat.mul_assoc, Nat.mul_comm]
      rw [e1, e2, Nat.add_assoc, Nat.add_assoc, ← Nat.mul_add, ← Nat.mul_add, this]

theorem mem_set_lt {β : Nat} {L : List Nat} (h : ∀ d ∈ L, d < β) {j d : Nat} (hd : d < β) : ∀ x ∈ L.set j d, x < β := by
  intro x hx
  rcases List.mem_or_eq_of_mem_set hx with h' | rfl
  · exact h x h'
  · exact hd
theorem getD_set_ne {L : List Nat} {i j d : Nat} (h : i ≠ j) : (L.set i d).getD j 0 = L.getD j 0 := by
  simp only [List.getD]
  rw [List.getElem?_set_ne h]
theorem dval_take_succ (B : Nat) (L : List Nat) (k : Nat) (h : k < L.length) : dval B (L.take (k + 1)) = dval B (L.take k) + B ^ k * L[k] := by
  rw [List.take_succ_eq_append_getElem h, dval_snoc, List.length_take, Nat.min_eq_left (by omega)]

structure MulOut (β : Nat) (A B : List Nat) (i : Nat) (O : List Nat) : Prop where
  len : O.length = A.length + B.length
  lt : ∀ d ∈ O, d < β
  zero : ∀ j, i + B.length ≤ j → O.getD j 0 = 0
  val : dval β O = dval β (A.take i) * dval β B
structure MulIn (β : Nat) (A B : List Nat) (i x k c : Nat) (O : List Nat) : Prop where
  len : O.length = A.length + B.length
  lt : ∀ d ∈ O, d < β
  zero : ∀ j, i + B.length ≤ j → O.getD j 0 = 0
  carry : c < β
  upto : k ≤ B.length
  val : dval β O + c * β ^ (i + k) = dval β (A.take i) * dval β B + x * dval β (B.take k) * β ^ i

theorem MulOut.start (β : Nat) (hβ : 0 < β) (A B : List Nat) : MulOut β A B 0 (List.replicate (A.length + B.length) 0) := by
  refine ⟨by simp, fun d hd => by rw [List.eq_of_mem_replicate hd]; exact hβ, fun j _ => ?_, ?_⟩
  · simp only [List.getD]
    rw [List.getElem?_replicate]
    split <;> rfl
  · have := dval_zeros β [] (A.length + B.length)
    simp only [List.nil_append] at this
    rw [this]; simp [dval]
theorem MulOut.enter {β : Nat} {A B : List Nat} {i : Nat} {O : List Nat} (h : MulOut β A B i O) (hβ : 0 < β) (x : Nat) : MulIn β A B i x 0 0 O :=
  ⟨h.len, h.lt, h.zero, hβ, Nat.zero_le _, by rw [h.val]; simp [dval]⟩

theorem sum_lt {β c x y o : Nat} (hc : c < β) (hx : x < β) (hy : y < β) (ho : o < β) : c + (x * y + o) < β * β := by
  obtain ⟨b, rfl⟩ : ∃ b, β = b + 1 := ⟨β - 1, by omega⟩
  have h1 : x * y ≤ b * b := Nat.mul_le_mul (by omega) (by omega)
  have h2 : (b + 1) * (b + 1) = b * b + 2 * b + 1 := by rw [Nat.add_mul, Nat.mul_add]; omega
  omega

theorem MulIn.step {β : Nat} {A B : List Nat} {i x k c : Nat} {O : List Nat} (h : MulIn β A B i x k c O) (hB : ∀ d ∈ B, d < β) (hx : x < β) (hk : k < B.length) (hi : i < A.length) :
    MulIn β A B i x (k + 1) ((c + (x * B[k] + O.getD (i + k) 0)) / β) (O.set (i + k) ((c + (x * B[k] + O.getD (i + k) 0)) % β)) := by
  have hβ : 0 < β := by omega
  have hj : i + k < O.length := by rw [h.len]; omega
  have ho : O.getD (i + k) 0 < β := by
    simp only [List.getD]; rw [List.getElem?_eq_getElem hj]; exact h.lt _ (List.getElem_mem hj)
  have hs := sum_lt h.carry hx (hB _ (List.getElem_mem hk)) ho
  refine ⟨by simp [h.len], mem_set_lt h.lt (Nat.mod_lt _ hβ), fun j hj' => ?_, (Nat.div_lt_iff_lt_mul hβ).2 hs, by omega, ?_⟩
  · rw [getD_set_ne (by omega)]; exact h.zero j hj'
  · have e := dval_set β O (i + k) ((c + (x * B[k] + O.getD (i + k) 0)) % β) hj
    have v := h.val
    rw [dval_take_succ β B k hk]
    have hp : β ^ (i + (k + 1)) = β * β ^ (i + k) := by rw [← Nat.add_assoc, Nat.pow_succ, Nat.mul_comm]
    rw [hp]
    have hdm := Nat.div_add_mod (c + (x * B[k] + O.getD (i + k) 0)) β
    generalize O.getD (i + k) 0 = o at *
    generalize B[k] = y at *
    generalize hq : (c + (x * y + o)) / β = q at *
    generalize hr : (c + (x * y + o)) % β = r at *
    generalize dval β (O.set (i + k) r) = D' at *
    generalize dval β O = D at *
    have hpk : x * (β ^ k * y) * β ^ i = x * y * β ^ (i + k) := by
      rw [Nat.pow_add, Nat.mul_assoc x, Nat.mul_assoc x, Nat.mul_comm (β ^ k) y, Nat.mul_assoc y, Nat.mul_comm (β ^ k)]
    rw [Nat.mul_add x, Nat.add_mul, hpk]
    generalize β ^ (i + k) = p at *
    generalize x * dval β (B.take k) * β ^ i = V at *
    generalize dval β (A.take i) * dval β B = U at *
    have h1 : q * (β * p) + r * p = (c + (x * y + o)) * p := by
      rw [← Nat.mul_assoc, ← Nat.add_mul, Nat.mul_comm q, hdm]
    have h2 : (c + (x * y + o)) * p = c * p + (x * y * p + o * p) := by rw [Nat.add_mul, Nat.add_mul]
    omega
theorem MulIn.leave {β : Nat} {A B : List Nat} {i c : Nat} {O : List Nat} (hi : i < A.length) (h : MulIn β A B i A[i] B.length c O) : MulOut β A B (i + 1) (O.set (i + B.length) c) := by
  have hj : i + B.length < O.length := by rw [h.len]; omega
  refine ⟨by simp [h.len], mem_set_lt h.lt h.carry, fun j hj' => ?_, ?_⟩
  · rw [getD_set_ne (by omega)]; exact h.zero j (by omega)
  · have e := dval_set β O (i + B.length) c hj
    rw [h.zero (i + B.length) (Nat.le_refl _), Nat.zero_mul, Nat.add_zero] at e
    have v := h.val
    rw [List.take_length] at v
    rw [e, v, dval_take_succ β A i hi, Nat.add_mul]
    congr 1
    rw [Nat.mul_assoc, Nat.mul_comm (dval β B), ← Nat.mul_assoc, Nat.mul_comm A[i]]
#print axioms MulIn.leave
end Go.Proofs.Ytfhkpkebiinglaa
