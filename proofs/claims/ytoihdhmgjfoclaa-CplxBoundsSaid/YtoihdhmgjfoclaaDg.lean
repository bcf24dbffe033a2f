/-
  Whole numbers and their digits to the base 65536, the lowest first; sums, products and comparisons as the law's loops make them. No program in sight.
-/
import Derived.KernelRfl
namespace Go.Proofs.Ytoihdhmgjfoclaa

/-- The number that these digits make. -/
def dval (B : Nat) : List Nat → Nat
  | [] => 0
  | d :: l => d + B * dval B l
theorem dval_append (B : Nat) (a b : List Nat) : dval B (a ++ b) = dval B a + B ^ a.length * dval B b := by
  induction a with
  | nil => simp [dval]
  | cons d a ih =>
    simp only [List.cons_append, dval, List.length_cons, ih, Nat.pow_succ]
    rw [Nat.mul_add, Nat.add_assoc]
    congr 2
    rw [← Nat.mul_assoc, Nat.mul_comm B]
theorem dval_snoc (B : Nat) (a : List Nat) (d : Nat) : dval B (a ++ [d]) = dval B a + B ^ a.length * d := by
  rw [dval_append]; simp [dval]
theorem dval_lt (B : Nat) (l : List Nat) (h : ∀ d ∈ l, d < B) : dval B l < B ^ l.length := by
  induction l with
  | nil => simp [dval]
  | cons d l ih =>
    have h1 := ih fun x hx => h x (by simp [hx])
    have h2 := h d (by simp)
    simp only [dval, List.length_cons, Nat.pow_succ]
    have h3 : dval B l + 1 ≤ B ^ l.length := h1
    calc d + B * dval B l < B + B * dval B l := by omega
      _ = B * (dval B l + 1) := by rw [Nat.mul_add]; omega
      _ ≤ B * B ^ l.length := Nat.mul_le_mul_left _ h3
      _ = _ := Nat.mul_comm ..
theorem dval_rep (B k : Nat) : dval B (List.replicate k 0) = 0 := by
  induction k with
  | zero => rfl
  | succ k ih => rw [List.replicate_succ, dval, ih]; simp
theorem dval_set (B : Nat) (L : List Nat) (j d : Nat) (h : j < L.length) : dval B (L.set j d) + L.getD j 0 * B ^ j = dval B L + d * B ^ j := by
  induction L generalizing j with
  | nil => simp at h
  | cons x L ih =>
    cases j with
    | zero => simp [dval]; omega
    | succ j =>
      have := ih j (by simpa using h)
      simp only [List.set_cons_succ, dval, List.getD_cons_succ, Nat.pow_succ]
      have e1 : L.getD j 0 * (B ^ j * B) = B * (L.getD j 0 * B ^ j) := by rw [← Nat.mul_assoc, Nat.mul_comm]
      have e2 : d * (B ^ j * B) = B * (d * B ^ j) := by rw [← Nat.mul_assoc, Nat.mul_comm]
      rw [e1, e2, Nat.add_assoc, Nat.add_assoc, ← Nat.mul_add, ← Nat.mul_add, this]
theorem mem_set_lt {β : Nat} {L : List Nat} (h : ∀ d ∈ L, d < β) {j d : Nat} (hd : d < β) : ∀ x ∈ L.set j d, x < β := by
  intro x hx
  rcases List.mem_or_eq_of_mem_set hx with h' | rfl
  · exact h x h'
  · exact hd
theorem getD_set_ne {L : List Nat} {i j d : Nat} (h : i ≠ j) : (L.set i d).getD j 0 = L.getD j 0 := by
  simp only [List.getD]
  rw [List.getElem?_set_ne h]
theorem getD_lt {L : List Nat} {i : Nat} (h : i < L.length) : L.getD i 0 = L[i] := by simp [List.getD, h]
theorem dval_take_succ (B : Nat) (L : List Nat) (k : Nat) (h : k < L.length) : dval B (L.take (k + 1)) = dval B (L.take k) + B ^ k * L[k] := by
  rw [List.take_succ_eq_append_getElem h, dval_snoc, List.length_take, Nat.min_eq_left (by omega)]
theorem dval_digit_le (B : Nat) (L : List Nat) (j : Nat) (h : j < L.length) : L[j] * B ^ j ≤ dval B L := by
  have e := dval_set B L j 0 h
  rw [getD_lt h] at e
  omega

/-! ### exact -/
/-- The bits below i of m have been written at e. -/
structure BitsAt (m e n i : Nat) (O : List Nat) : Prop where
  len : O.length = n
  lt : ∀ d ∈ O, d < 65536
  val : dval 65536 O = m % 2 ^ i * 2 ^ e
theorem BitsAt.start (m e n : Nat) : BitsAt m e n 0 (List.replicate n 0) := by
  refine ⟨by simp, fun d hd => by rw [List.eq_of_mem_replicate hd]; omega, ?_⟩
  rw [dval_rep, Nat.pow_zero, Nat.mod_one, Nat.zero_mul]
theorem mod_bit (m i : Nat) : m % 2 ^ (i + 1) = m % 2 ^ i + 2 ^ i * (m / 2 ^ i % 2) := by rw [Nat.pow_succ, Nat.mod_mul]
theorem BitsAt.skip {m e n i : Nat} {O : List Nat} (h : BitsAt m e n i O) (hb : m / 2 ^ i % 2 = 0) : BitsAt m e n (i + 1) O :=
  ⟨h.len, h.lt, by rw [h.val, mod_bit, hb, Nat.mul_zero, Nat.add_zero]⟩
theorem pow_16 (j b : Nat) : (65536 : Nat) ^ j * 2 ^ b = 2 ^ (16 * j + b) := by
  rw [show (65536 : Nat) = 2 ^ 16 from rfl, ← Nat.pow_mul, ← Nat.pow_add]
theorem BitsAt.digit {m e n i : Nat} {O : List Nat} (h : BitsAt m e n i O) (j b : Nat) (hj : j < O.length) (hij : 16 * j + b = e + i) : O[j] < 2 ^ b := by
  have h1 := dval_digit_le 65536 O j hj
  rw [h.val] at h1
  have h2 : m % 2 ^ i * 2 ^ e < 2 ^ i * 2 ^ e := Nat.mul_lt_mul_of_pos_right (Nat.mod_lt _ (Nat.two_pow_pos _)) (Nat.two_pow_pos _)
  rw [← Nat.pow_add, Nat.add_comm i, ← hij, ← pow_16] at h2
  have h3 : O[j] * 65536 ^ j < 2 ^ b * 65536 ^ j := by rw [Nat.mul_comm (2 ^ b)]; omega
  exact Nat.lt_of_mul_lt_mul_right h3
theorem BitsAt.set {m e n i : Nat} {O : List Nat} (h : BitsAt m e n i O) (hb : m / 2 ^ i % 2 = 1) (j b : Nat) (hj : j < O.length) (hij : 16 * j + b = e + i) (hb16 : b < 16) : BitsAt m e n (i + 1) (O.set j (O[j] + 2 ^ b)) := by
  have hd := h.digit j b hj hij
  have hp : 2 ^ (b + 1) ≤ 2 ^ 16 := Nat.pow_le_pow_right (by omega) (by omega)
  rw [Nat.pow_succ] at hp
  refine ⟨by rw [List.length_set]; exact h.len, mem_set_lt h.lt (by omega), ?_⟩
  have e := dval_set 65536 O j (O[j] + 2 ^ b) hj
  rw [getD_lt hj, Nat.add_mul, h.val] at e
  rw [mod_bit, hb, Nat.mul_one, Nat.add_mul, ← Nat.pow_add, Nat.add_comm i, ← hij, ← pow_16, Nat.mul_comm (65536 ^ j)]
  omega
theorem or_bit {d b : Nat} (h : d < 2 ^ b) : d ||| 2 ^ b = d + 2 ^ b := by
  have := Nat.two_pow_add_eq_or_of_lt h 1
  rw [Nat.mul_one] at this
  rw [Nat.or_comm, ← this, Nat.add_comm]

/-! ### times -/
structure MulOut (β : Nat) (A B : List Nat) (i : Nat) (O : List Nat) : Prop where
  len : O.length = A.length + B.length + 1
  lt : ∀ d ∈ O, d < β
  zero : ∀ j, i + B.length ≤ j → O.getD j 0 = 0
  val : dval β O = dval β (A.take i) * dval β B
structure MulIn (β : Nat) (A B : List Nat) (i x k c : Nat) (O : List Nat) : Prop where
  len : O.length = A.length + B.length + 1
  lt : ∀ d ∈ O, d < β
  zero : ∀ j, i + B.length ≤ j → O.getD j 0 = 0
  carry : c < β
  upto : k ≤ B.length
  val : dval β O + c * β ^ (i + k) = dval β (A.take i) * dval β B + x * dval β (B.take k) * β ^ i
theorem MulOut.start (β : Nat) (hβ : 0 < β) (A B : List Nat) : MulOut β A B 0 (List.replicate (A.length + B.length + 1) 0) := by
  refine ⟨by simp, fun d hd => by rw [List.eq_of_mem_replicate hd]; exact hβ, fun j _ => ?_, ?_⟩
  · simp only [List.getD]
    rw [List.getElem?_replicate]
    split <;> rfl
  · rw [dval_rep]; simp [dval]
theorem MulOut.enter {β : Nat} {A B : List Nat} {i : Nat} {O : List Nat} (h : MulOut β A B i O) (hβ : 0 < β) (x : Nat) : MulIn β A B i x 0 0 O :=
  ⟨h.len, h.lt, h.zero, hβ, Nat.zero_le _, by rw [h.val]; simp [dval]⟩
theorem sum_lt {β c x y o : Nat} (hc : c < β) (hx : x < β) (hy : y < β) (ho : o < β) : c + o + x * y < β * β := by
  obtain ⟨b, rfl⟩ : ∃ b, β = b + 1 := ⟨β - 1, by omega⟩
  have h1 : x * y ≤ b * b := Nat.mul_le_mul (by omega) (by omega)
  have h2 : (b + 1) * (b + 1) = b * b + 2 * b + 1 := by rw [Nat.add_mul, Nat.mul_add]; omega
  omega
theorem MulIn.step {β : Nat} {A B : List Nat} {i x k c : Nat} {O : List Nat} (h : MulIn β A B i x k c O) (hB : ∀ d ∈ B, d < β) (hx : x < β) (hk : k < B.length) (hi : i < A.length) :
    MulIn β A B i x (k + 1) ((c + O.getD (i + k) 0 + x * B[k]) / β) (O.set (i + k) ((c + O.getD (i + k) 0 + x * B[k]) % β)) := by
  have hβ : 0 < β := by omega
  have hj : i + k < O.length := by rw [h.len]; omega
  have ho : O.getD (i + k) 0 < β := by
    simp only [List.getD]; rw [List.getElem?_eq_getElem hj]; exact h.lt _ (List.getElem_mem hj)
  have hs := sum_lt h.carry hx (hB _ (List.getElem_mem hk)) ho
  refine ⟨by simp [h.len], mem_set_lt h.lt (Nat.mod_lt _ hβ), fun j hj' => ?_, (Nat.div_lt_iff_lt_mul hβ).2 hs, by omega, ?_⟩
  · rw [getD_set_ne (by omega)]; exact h.zero j hj'
  · have e := dval_set β O (i + k) ((c + O.getD (i + k) 0 + x * B[k]) % β) hj
    have v := h.val
    rw [dval_take_succ β B k hk]
    have hp : β ^ (i + (k + 1)) = β * β ^ (i + k) := by rw [← Nat.add_assoc, Nat.pow_succ, Nat.mul_comm]
    rw [hp]
    have hdm := Nat.div_add_mod (c + O.getD (i + k) 0 + x * B[k]) β
    generalize O.getD (i + k) 0 = o at *
    generalize B[k] = y at *
    generalize hq : (c + o + x * y) / β = q at *
    generalize hr : (c + o + x * y) % β = r at *
    generalize dval β (O.set (i + k) r) = D' at *
    generalize dval β O = D at *
    have hpk : x * (β ^ k * y) * β ^ i = x * y * β ^ (i + k) := by
      rw [Nat.pow_add, Nat.mul_assoc x, Nat.mul_assoc x, Nat.mul_comm (β ^ k) y, Nat.mul_assoc y, Nat.mul_comm (β ^ k)]
    rw [Nat.mul_add x, Nat.add_mul, hpk]
    generalize β ^ (i + k) = p at *
    generalize x * dval β (B.take k) * β ^ i = V at *
    generalize dval β (A.take i) * dval β B = U at *
    have h1 : q * (β * p) + r * p = (c + o + x * y) * p := by
      rw [← Nat.mul_assoc, ← Nat.add_mul, Nat.mul_comm q, hdm]
    have h2 : (c + o + x * y) * p = c * p + o * p + x * y * p := by rw [Nat.add_mul, Nat.add_mul]
    omega
theorem MulIn.leave {β : Nat} {A B : List Nat} {i c : Nat} {O : List Nat} (hi : i < A.length) (h : MulIn β A B i A[i] B.length c O) : MulOut β A B (i + 1) (O.set (i + B.length) c) := by
  have hj : i + B.length < O.length := by rw [h.len]; omega
  refine ⟨by simp [h.len], mem_set_lt h.lt h.carry, fun j hj' => ?_, ?_⟩
  · rw [getD_set_ne (by omega)]; exact h.zero j (by omega)
  · have e := dval_set β O (i + B.length) c hj
    rw [h.zero (i + B.length) (Nat.le_refl _), Nat.zero_mul, Nat.add_zero] at e
    have v := h.val
    rw [List.take_length] at v
    rw [e, v, dval_take_succ β A i hi, Nat.add_mul]
    congr 1
    rw [Nat.mul_assoc, Nat.mul_comm (dval β B), ← Nat.mul_assoc, Nat.mul_comm A[i]]
theorem MulIn.leave0 {β : Nat} {A B : List Nat} {i : Nat} {O : List Nat} (hi : i < A.length) (h : MulIn β A B i A[i] B.length 0 O) : MulOut β A B (i + 1) O := by
  refine ⟨h.len, h.lt, fun j hj' => h.zero j (by omega), ?_⟩
  have v := h.val
  rw [List.take_length, Nat.zero_mul, Nat.add_zero] at v
  rw [v, dval_take_succ β A i hi, Nat.add_mul]
  congr 1
  rw [Nat.mul_assoc, Nat.mul_comm (dval β B), ← Nat.mul_assoc, Nat.mul_comm A[i]]

/-! ### plus -/
structure AddAt (β : Nat) (A B : List Nat) (n k c : Nat) (O : List Nat) : Prop where
  len : O.length = n
  lt : ∀ d ∈ O, d < β
  zero : ∀ j, k ≤ j → O.getD j 0 = 0
  carry : c ≤ 1
  val : dval β O + c * β ^ k = dval β (A.take k) + dval β (B.take k)
theorem AddAt.start (β : Nat) (hβ : 0 < β) (A B : List Nat) (n : Nat) : AddAt β A B n 0 0 (List.replicate n 0) := by
  refine ⟨by simp, fun d hd => by rw [List.eq_of_mem_replicate hd]; exact hβ, fun j _ => ?_, by omega, ?_⟩
  · simp only [List.getD]
    rw [List.getElem?_replicate]
    split <;> rfl
  · rw [dval_rep]; simp [dval]
theorem dval_take_getD (B : Nat) (L : List Nat) (k : Nat) : dval B (L.take (k + 1)) = dval B (L.take k) + B ^ k * L.getD k 0 := by
  by_cases h : k < L.length
  · rw [dval_take_succ B L k h, getD_lt h]
  · rw [List.take_of_length_le (by omega), List.take_of_length_le (by omega)]
    have : L.getD k 0 = 0 := by simp [List.getD, List.getElem?_eq_none (by omega : L.length ≤ k)]
    rw [this, Nat.mul_zero, Nat.add_zero]
theorem AddAt.step {β : Nat} {A B : List Nat} {n k c : Nat} {O : List Nat} (h : AddAt β A B n k c O) (hβ : 0 < β) (hA : A.getD k 0 < β) (hB : B.getD k 0 < β) (hk : k < n) :
    AddAt β A B n (k + 1) ((c + A.getD k 0 + B.getD k 0) / β) (O.set k ((c + A.getD k 0 + B.getD k 0) % β)) := by
  have hj : k < O.length := by rw [h.len]; exact hk
  have hc := h.carry
  refine ⟨by simp [h.len], mem_set_lt h.lt (Nat.mod_lt _ hβ), fun j hj' => ?_, ?_, ?_⟩
  · rw [getD_set_ne (by omega)]; exact h.zero j (by omega)
  · have : (c + A.getD k 0 + B.getD k 0) / β < 2 := (Nat.div_lt_iff_lt_mul hβ).2 (by omega)
    omega
  · have e := dval_set β O k ((c + A.getD k 0 + B.getD k 0) % β) hj
    rw [h.zero k (Nat.le_refl _), Nat.zero_mul, Nat.add_zero] at e
    have v := h.val
    rw [dval_take_getD, dval_take_getD, e, Nat.pow_succ]
    have hdm := Nat.div_add_mod (c + A.getD k 0 + B.getD k 0) β
    generalize A.getD k 0 = x at *
    generalize B.getD k 0 = y at *
    generalize hq : (c + x + y) / β = q at *
    generalize hr : (c + x + y) % β = r at *
    generalize β ^ k = p at *
    have h1 : r * p + q * (p * β) = (c + x + y) * p := by
      rw [← hdm, Nat.add_mul, Nat.add_comm]; congr 1
      rw [Nat.mul_comm p, ← Nat.mul_assoc, Nat.mul_comm q]
    have h2 : (c + x + y) * p = c * p + p * x + p * y := by rw [Nat.add_mul, Nat.add_mul, Nat.mul_comm p, Nat.mul_comm p]
    omega
/-- Behind all digits no carry is left. -/
theorem AddAt.done {β : Nat} {A B : List Nat} {n c : Nat} {O : List Nat} (hβ : 2 ≤ β) (hA : ∀ d ∈ A, d < β) (hB : ∀ d ∈ B, d < β) (hn : n = max A.length B.length + 1) (h : AddAt β A B n n c O) : dval β O = dval β A + dval β B := by
  have v := h.val
  rw [List.take_of_length_le (by omega), List.take_of_length_le (by omega)] at v
  have h1 := dval_lt β A hA
  have h2 := dval_lt β B hB
  have h3 : β ^ A.length ≤ β ^ (n - 1) := Nat.pow_le_pow_right (by omega) (by omega)
  have h4 : β ^ B.length ≤ β ^ (n - 1) := Nat.pow_le_pow_right (by omega) (by omega)
  have h5 : β ^ n = β ^ (n - 1) * β := by rw [← Nat.pow_succ]; congr 1; omega
  have h6 : β ^ (n - 1) * 2 ≤ β ^ (n - 1) * β := Nat.mul_le_mul_left _ hβ
  have hc : c = 0 := by
    rcases Nat.eq_zero_or_pos c with h | h
    · exact h
    · exfalso
      have := Nat.le_mul_of_pos_left (β ^ n) h
      omega
  rw [hc, Nat.zero_mul, Nat.add_zero] at v
  exact v

/-! ### above -/
/-- From place k upwards both have the same digits. -/
def SameFrom (A B : List Nat) (k : Nat) : Prop := ∀ j, k ≤ j → A.getD j 0 = B.getD j 0
theorem dval_split (β : Nat) (L : List Nat) (k : Nat) : dval β L = dval β (L.take k) + β ^ k * dval β (L.drop k) := by
  by_cases h : k ≤ L.length
  · conv => lhs; rw [← List.take_append_drop k L]
    rw [dval_append, List.length_take, Nat.min_eq_left h]
  · rw [List.take_of_length_le (by omega), List.drop_eq_nil_of_le (by omega)]; simp [dval]
theorem dval_same (β : Nat) : ∀ A B : List Nat, (∀ j, A.getD j 0 = B.getD j 0) → dval β A = dval β B := by
  intro A
  induction A with
  | nil =>
    intro B h
    induction B with
    | nil => rfl
    | cons y B ih =>
      have h0 := h 0
      simp at h0
      have hi := ih fun j => by have := h (j + 1); simpa using this
      show dval β [] = y + β * dval β B
      rw [← h0, ← hi]
      simp [dval]
  | cons x A ih =>
    intro B h
    cases B with
    | nil =>
      have h0 := h 0
      simp at h0
      have hi := ih [] fun j => by have := h (j + 1); simpa using this
      show x + β * dval β A = dval β []
      rw [h0, hi]
      simp [dval]
    | cons y B =>
      have h0 := h 0
      simp at h0
      rw [dval, dval, h0, ih B (fun j => by have := h (j + 1); simpa using this)]
theorem take_lt (β : Nat) (hβ : 0 < β) (L : List Nat) (h : ∀ d ∈ L, d < β) (k : Nat) : dval β (L.take k) < β ^ k := by
  have h1 := dval_lt β (L.take k) fun d hd => h d (List.mem_of_mem_take hd)
  refine Nat.lt_of_lt_of_le h1 (Nat.pow_le_pow_right hβ ?_)
  rw [List.length_take]; exact Nat.min_le_left ..
theorem getD_drop (L : List Nat) (k j : Nat) : (L.drop k).getD j 0 = L.getD (k + j) 0 := by simp [List.getD]
/-- The highest place where they differ decides. -/
theorem above_at {β : Nat} (hβ : 0 < β) {A B : List Nat} (hA : ∀ d ∈ A, d < β) (hB : ∀ d ∈ B, d < β) {k : Nat} (h : SameFrom A B (k + 1)) (hne : A.getD k 0 ≠ B.getD k 0) : decide (dval β B < dval β A) = decide (B.getD k 0 < A.getD k 0) := by
  have e1 := dval_split β A (k + 1)
  have e2 := dval_split β B (k + 1)
  have e3 := dval_same β (A.drop (k + 1)) (B.drop (k + 1)) fun j => by rw [getD_drop, getD_drop]; exact h _ (by omega)
  rw [dval_take_getD] at e1 e2
  have h1 := take_lt β hβ A hA k
  have h2 := take_lt β hβ B hB k
  rw [e3] at e1
  generalize β ^ (k + 1) * dval β (B.drop (k + 1)) = D at *
  generalize A.getD k 0 = x at *
  generalize B.getD k 0 = y at *
  generalize β ^ k = p at *
  apply decide_eq_decide.2
  rw [e1, e2]
  constructor
  · intro hl
    rcases Nat.lt_or_ge y x with h | h
    · exact h
    · exfalso
      have := Nat.mul_le_mul_left p (show x + 1 ≤ y by omega)
      rw [Nat.mul_add] at this
      omega
  · intro hl
    have := Nat.mul_le_mul_left p (show y + 1 ≤ x by omega)
    rw [Nat.mul_add] at this
    omega
theorem above_no {β : Nat} {A B : List Nat} (h : SameFrom A B 0) : decide (dval β B < dval β A) = false := by
  rw [dval_same β A B fun j => h j (by omega)]; simp
theorem same_start (A B : List Nat) : SameFrom A B (max A.length B.length) := by
  intro j hj
  simp [List.getD, List.getElem?_eq_none (by omega : A.length ≤ j), List.getElem?_eq_none (by omega : B.length ≤ j)]
theorem same_step {A B : List Nat} {k : Nat} (h : SameFrom A B (k + 1)) (he : A.getD k 0 = B.getD k 0) : SameFrom A B k := by
  intro j hj
  by_cases e : j = k
  · rw [e]; exact he
  · exact h j (by omega)
theorem getD_bd {β : Nat} (hβ : 0 < β) {L : List Nat} (h : ∀ d ∈ L, d < β) (k : Nat) : L.getD k 0 < β := by
  by_cases hk : k < L.length
  · rw [getD_lt hk]; exact h _ (List.getElem_mem hk)
  · simp [List.getD, List.getElem?_eq_none (by omega : L.length ≤ k)]; exact hβ
theorem getD_out {L : List Nat} {k : Nat} (h : ¬ k < L.length) : L.getD k 0 = 0 := by simp [List.getD, List.getElem?_eq_none (by omega : L.length ≤ k)]
end Go.Proofs.Ytoihdhmgjfoclaa
