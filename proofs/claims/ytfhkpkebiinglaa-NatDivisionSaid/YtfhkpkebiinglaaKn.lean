/-
  The long division of rows of digits: the plain law.
-/
import Derived.Test.YtfhkpkebiinglaaPl
namespace Go.Proofs.Ytfhkpkebiinglaa

theorem getD_drop (L : List Nat) (k i : Nat) : (L.drop k).getD i 0 = L.getD (k + i) 0 := by simp [List.getD]
theorem dval_drop_at (B : Nat) (L : List Nat) (k : Nat) : dval B (L.drop k) = L.getD k 0 + B * dval B (L.drop (k + 1)) := by
  by_cases h : k < L.length
  · rw [List.drop_eq_getElem_cons h]; simp [dval, List.getD, h]
  · rw [List.drop_of_length_le (by omega), List.drop_of_length_le (by omega)]; simp [dval, List.getD, Nat.le_of_not_lt h]
theorem dval_set_at (B : Nat) (L : List Nat) (j d : Nat) (h : j < L.length) : dval B (L.set j d) + L.getD j 0 * B ^ j = dval B L + d * B ^ j := dval_set B L j d h
/-- Nought above means small. -/
theorem dval_small {β : Nat} (hβ : 0 < β) (L : List Nat) (hL : ∀ d ∈ L, d < β) (k : Nat) (h : ∀ i, k ≤ i → L.getD i 0 = 0) : dval β L < β ^ k := by
  have e : dval β L = dval β (L.take k) := by
    conv => lhs; rw [← List.take_append_drop k L, dval_append]
    have hz : dval β (L.drop k) = 0 := by
      have : ∀ d ∈ L.drop k, d = 0 := by
        intro d hd
        obtain ⟨i, hi, rfl⟩ := List.getElem_of_mem hd
        have := h (k + i) (by omega)
        rw [← getD_drop] at this
        simp only [List.getD, List.getElem?_eq_getElem hi, Option.getD_some] at this
        exact this
      generalize L.drop k = M at this
      induction M with
      | nil => rfl
      | cons d M ih => rw [dval, this d (by simp), ih (fun x hx => this x (by simp [hx]))]; simp
    rw [hz]; simp
  rw [e]
  have := dval_lt β (L.take k) fun d hd => hL d (List.mem_of_mem_take hd)
  refine Nat.lt_of_lt_of_le this (Nat.pow_le_pow_right hβ ?_)
  rw [List.length_take]; omega
/-- A small value has noughts above. -/
theorem dval_above {β : Nat} (L : List Nat) (hL : ∀ d ∈ L, d < β) (k : Nat) (h : dval β L < β ^ k) (i : Nat) (hi : k ≤ i) : L.getD i 0 = 0 := by
  rw [dval_get L hL i]
  rcases Nat.eq_zero_or_pos β with hb | hb
  · cases L with
    | nil => simp [dval]
    | cons d l => have := hL d (by simp); omega
  · rw [Nat.div_eq_of_lt (Nat.lt_of_lt_of_le h (Nat.pow_le_pow_right hb hi))]; simp

/-- The estimate: U is what is divided, V the divisor, their three and two highest digits. -/
structure EstAt (β U V p v1 v2 u0 u1 u2 q r : Nat) : Prop where
  hv1 : 0 < v1
  v2lt : v2 < β
  u2lt : u2 < β
  ulo : ((u0 * β + u1) * β + u2) * p ≤ U
  uhi : U < ((u0 * β + u1) * β + u2 + 1) * p
  vlo : (v1 * β + v2) * p ≤ V
  vhi : V < (v1 * β + v2 + 1) * p
  fit : U < V * β
  top : u0 * β + u1 = q * v1 + r
  high : U / V ≤ q
  rest : r < β
/-- Less by one: it was too great. -/
theorem EstAt.down {β U V p v1 v2 u0 u1 u2 q r : Nat} (h : EstAt β U V p v1 v2 u0 u1 u2 q r) (hq : β ≤ q ∨ r * β + u2 < q * v2) :
    0 < q ∧ u0 * β + u1 = (q - 1) * v1 + (r + v1) ∧ U / V ≤ q - 1 := by
  have hq0 : 0 < q := by
    rcases hq with h1 | h1
    · have := h.rest; omega
    · rcases Nat.eq_zero_or_pos q with h2 | h2
      · subst h2; simp at h1
      · exact h2
  obtain ⟨t, rfl⟩ : ∃ t, q = t + 1 := ⟨q - 1, by omega⟩
  refine ⟨hq0, ?_, ?_⟩
  · rw [h.top, Nat.add_mul, Nat.add_sub_cancel]; omega
  · rw [Nat.add_sub_cancel]
    rcases hq with h1 | h1
    · have : U / V < β := Nat.div_lt_of_lt_mul h.fit
      omega
    · have hVpos : 0 < V := by
        rcases Nat.eq_zero_or_pos V with h2 | h2
        · have := h.fit; subst h2; simp at this
        · exact h2
      have hlt : U < (t + 1) * V := by
        have a1 := h.uhi
        have a2 := h.vlo
        have a3 : (u0 * β + u1) * β + u2 + 1 ≤ (t + 1) * (v1 * β + v2) := by
          rw [h.top]
          have : (t + 1) * (v1 * β + v2) = (t + 1) * v1 * β + (t + 1) * v2 := by rw [Nat.mul_add, Nat.mul_assoc]
          rw [this, Nat.add_mul]
          omega
        have a4 : ((u0 * β + u1) * β + u2 + 1) * p ≤ (t + 1) * (v1 * β + v2) * p := Nat.mul_le_mul_right _ a3
        have a5 : (t + 1) * (v1 * β + v2) * p ≤ (t + 1) * V := by rw [Nat.mul_assoc]; exact Nat.mul_le_mul_left _ a2
        omega
      have := (Nat.div_lt_iff_lt_mul hVpos).2 hlt
      omega
theorem EstAt.next {β U V p v1 v2 u0 u1 u2 q r : Nat} (h : EstAt β U V p v1 v2 u0 u1 u2 q r) (hq : β ≤ q ∨ r * β + u2 < q * v2) (hr : r + v1 < β) :
    EstAt β U V p v1 v2 u0 u1 u2 (q - 1) (r + v1) := by
  obtain ⟨_, h1, h2⟩ := h.down hq
  exact ⟨h.hv1, h.v2lt, h.u2lt, h.ulo, h.uhi, h.vlo, h.vhi, h.fit, h1, h2, hr⟩
/-- What the estimate is good for. -/
theorem EstAt.done {β U V p v1 v2 u0 u1 u2 q r : Nat} (hv1 : 0 < v1) (ulo : ((u0 * β + u1) * β + u2) * p ≤ U) (vlo : (v1 * β + v2) * p ≤ V) (vhi : V < (v1 * β + v2 + 1) * p)
    (top : u0 * β + u1 = q * v1 + r) (hqb : q < β) (hq : q * v2 ≤ r * β + u2) : q ≤ U / V + 1 := by
  have hV : 0 < V := by
    rcases Nat.eq_zero_or_pos p with h | h
    · subst h; simp at vhi
    · refine Nat.lt_of_lt_of_le (Nat.mul_pos ?_ h) vlo
      have : 0 < v1 * β := Nat.mul_pos hv1 (by omega)
      omega
  rcases Nat.eq_zero_or_pos q with h0 | h0
  · subst h0; exact Nat.zero_le _
  · obtain ⟨t, rfl⟩ : ∃ t, q = t + 1 := ⟨q - 1, by omega⟩
    have h1 : t ≤ U / V := by
      rw [Nat.le_div_iff_mul_le hV]
      have a1 : (t + 1) * (v1 * β + v2) ≤ (u0 * β + u1) * β + u2 := by
        rw [top]
        have : (t + 1) * (v1 * β + v2) = (t + 1) * v1 * β + (t + 1) * v2 := by rw [Nat.mul_add, Nat.mul_assoc]
        rw [this, Nat.add_mul _ r β]; omega
      have a2 : t * (v1 * β + v2 + 1) ≤ (t + 1) * (v1 * β + v2) := by
        rw [Nat.mul_add, Nat.add_mul]
        have : β ≤ v1 * β := Nat.le_mul_of_pos_left _ hv1
        omega
      have a3 : t * V ≤ t * ((v1 * β + v2 + 1) * p) := Nat.mul_le_mul_left _ (Nat.le_of_lt vhi)
      have a4 : t * ((v1 * β + v2 + 1) * p) ≤ ((u0 * β + u1) * β + u2) * p := by
        rw [← Nat.mul_assoc]; exact Nat.mul_le_mul_right _ (Nat.le_trans a2 a1)
      omega
    omega
/-- At the loop's end: the test said no. -/
theorem EstAt.fits {β U V p v1 v2 u0 u1 u2 q r : Nat} (h : EstAt β U V p v1 v2 u0 u1 u2 q r) (hq : ¬ (β ≤ q ∨ r * β + u2 < q * v2)) :
    q < β ∧ U / V ≤ q ∧ q ≤ U / V + 1 :=
  ⟨by omega, h.high, EstAt.done h.hv1 h.ulo h.vlo h.vhi h.top (by omega) (by omega)⟩
/-- At the loop's end: the rest became too great. -/
theorem EstAt.breaks {β U V p v1 v2 u0 u1 u2 q r : Nat} (h : EstAt β U V p v1 v2 u0 u1 u2 q r) (hu : u0 ≤ v1) (hu1 : u1 < β) (hq : β ≤ q ∨ r * β + u2 < q * v2) (hr : β ≤ r + v1) :
    q - 1 < β ∧ U / V ≤ q - 1 ∧ q - 1 ≤ U / V + 1 := by
  obtain ⟨h0, h1, h2⟩ := h.down hq
  have hb : q - 1 < β := by
    rcases Nat.lt_or_ge (q - 1) β with h3 | h3
    · exact h3
    · exfalso
      have a1 : β * v1 ≤ (q - 1) * v1 := Nat.mul_le_mul_right _ h3
      have a2 : u0 * β ≤ v1 * β := Nat.mul_le_mul_right _ hu
      rw [Nat.mul_comm v1] at a2
      omega
  refine ⟨hb, h2, EstAt.done h.hv1 h.ulo h.vlo h.vhi h1 hb ?_⟩
  have b1 : (q - 1) * v2 ≤ (β - 1) * (β - 1) := Nat.mul_le_mul (by omega) (by have := h.v2lt; omega)
  have b2 : β * β ≤ (r + v1) * β := Nat.mul_le_mul_right _ hr
  have b3 : (β - 1) * (β - 1) ≤ β * β := Nat.mul_le_mul (by omega) (by omega)
  omega

/-- q times the divisor taken away, digit by digit from place j on. -/
structure MsAt (β : Nat) (U V : List Nat) (q j i c b : Nat) (O : List Nat) : Prop where
  len : O.length = U.length
  lt : ∀ d ∈ O, d < β
  upto : i ≤ V.length
  carry : c < β
  borrow : b ≤ 1
  rest : ∀ k, j + i ≤ k → O.getD k 0 = U.getD k 0
  val : dval β O + q * dval β (V.take i) * β ^ j = dval β U + (c + b) * β ^ (j + i)
theorem MsAt.start {β : Nat} {U V : List Nat} (hβ : 0 < β) (q j : Nat) (hU : ∀ d ∈ U, d < β) : MsAt β U V q j 0 0 0 U :=
  ⟨rfl, hU, Nat.zero_le _, hβ, Nat.zero_le _, fun _ _ => rfl, by simp [dval]⟩
theorem MsAt.step {β : Nat} {U V : List Nat} {q j i c b : Nat} {O : List Nat} (h : MsAt β U V q j i c b O) (hq : q < β) (hV : ∀ d ∈ V, d < β) (hi : i < V.length) (hj : j + i < U.length)
    (d b' : Nat) (hd : d < β) (hb' : b' ≤ 1) (e : O.getD (j + i) 0 + b' * β = d + (c + q * V[i]) % β + b) :
    MsAt β U V q j (i + 1) ((c + q * V[i]) / β) b' (O.set (j + i) d) := by
  have hβ : 0 < β := by omega
  have hv := hV _ (List.getElem_mem hi)
  have hs := sum_lt (β := β) (c := c) (x := q) (y := V[i]) (o := 0) h.carry hq hv hβ
  refine ⟨by rw [List.length_set]; exact h.len, mem_set_lt h.lt hd, hi, (Nat.div_lt_iff_lt_mul hβ).2 (by simpa using hs), hb', fun k hk => ?_, ?_⟩
  · rw [getD_set_ne (by omega)]; exact h.rest k (by omega)
  · have es := dval_set β O (j + i) d (by rw [h.len]; exact hj)
    have ev := h.val
    rw [dval_take_succ β V i hi]
    have hdm := Nat.div_add_mod (c + q * V[i]) β
    generalize V[i] = y at *
    generalize (c + q * y) / β = c' at *
    generalize (c + q * y) % β = l at *
    generalize O.getD (j + i) 0 = o at *
    generalize dval β (O.set (j + i) d) = D' at *
    generalize dval β O = D at *
    have hp : β ^ (j + (i + 1)) = β * β ^ (j + i) := by rw [← Nat.add_assoc, Nat.pow_succ, Nat.mul_comm]
    have hpk : q * (β ^ i * y) * β ^ j = q * y * β ^ (j + i) := by
      rw [Nat.pow_add, Nat.mul_assoc q, Nat.mul_assoc q, Nat.mul_comm (β ^ i) y, Nat.mul_assoc y, Nat.mul_comm (β ^ i)]
    rw [hp, Nat.mul_add q, Nat.add_mul, hpk]
    generalize β ^ (j + i) = P at *
    generalize q * dval β (V.take i) * β ^ j = X at *
    generalize dval β U = W at *
    have f1 : (o + b' * β) * P = (d + l + b) * P := by rw [e]
    have f2 : (β * c' + l) * P = (c + q * y) * P := by rw [hdm]
    simp only [Nat.add_mul] at f1 f2 ev ⊢
    have f3 : b' * β * P = b' * (β * P) := Nat.mul_assoc ..
    have f4 : β * c' * P = c' * (β * P) := by rw [Nat.mul_comm β, Nat.mul_assoc]
    omega
/-- The last digit of the taking away. -/
theorem MsAt.last {β : Nat} {U V : List Nat} {q j c b : Nat} {O : List Nat} (h : MsAt β U V q j V.length c b O) (hj : j + V.length < U.length)
    (d b' : Nat) (hd : d < β) (e : O.getD (j + V.length) 0 + b' * β = d + c + b) :
    (O.set (j + V.length) d).length = U.length ∧ (∀ x ∈ O.set (j + V.length) d, x < β) ∧ (∀ k, j + V.length < k → (O.set (j + V.length) d).getD k 0 = U.getD k 0) ∧
    dval β (O.set (j + V.length) d) + q * dval β V * β ^ j = dval β U + b' * β ^ (j + V.length + 1) := by
  refine ⟨by rw [List.length_set]; exact h.len, mem_set_lt h.lt hd, fun k hk => ?_, ?_⟩
  · rw [getD_set_ne (by omega)]; exact h.rest k (by omega)
  · have es := dval_set β O (j + V.length) d (by rw [h.len]; exact hj)
    have ev := h.val
    rw [List.take_of_length_le (Nat.le_refl _)] at ev
    generalize O.getD (j + V.length) 0 = o at *
    generalize dval β (O.set (j + V.length) d) = D' at *
    generalize dval β O = D at *
    rw [Nat.pow_succ]
    generalize β ^ (j + V.length) = P at *
    generalize q * dval β V * β ^ j = X at *
    generalize dval β U = W at *
    have f1 : (o + b' * β) * P = (d + c + b) * P := by rw [e]
    simp only [Nat.add_mul] at f1 ev ⊢
    have f3 : b' * β * P = b' * (P * β) := by rw [Nat.mul_assoc, Nat.mul_comm β]
    omega
/-- The divisor added back. -/
structure AbAt (β : Nat) (U V : List Nat) (j i c : Nat) (O : List Nat) : Prop where
  len : O.length = U.length
  lt : ∀ d ∈ O, d < β
  upto : i ≤ V.length
  carry : c ≤ 1
  rest : ∀ k, j + i ≤ k → O.getD k 0 = U.getD k 0
  val : dval β O + c * β ^ (j + i) = dval β U + dval β (V.take i) * β ^ j
theorem AbAt.start {β : Nat} {U V : List Nat} (j : Nat) (hU : ∀ d ∈ U, d < β) : AbAt β U V j 0 0 U :=
  ⟨rfl, hU, Nat.zero_le _, Nat.zero_le _, fun _ _ => rfl, by simp [dval]⟩
theorem AbAt.step {β : Nat} {U V : List Nat} {j i c : Nat} {O : List Nat} (h : AbAt β U V j i c O) (hV : ∀ d ∈ V, d < β) (hi : i < V.length) (hj : j + i < U.length) :
    AbAt β U V j (i + 1) ((O.getD (j + i) 0 + V[i] + c) / β) (O.set (j + i) ((O.getD (j + i) 0 + V[i] + c) % β)) := by
  have hv := hV _ (List.getElem_mem hi)
  have hβ : 0 < β := by omega
  have ho := getD_small h.lt hβ (j + i)
  have hc := h.carry
  refine ⟨by rw [List.length_set]; exact h.len, mem_set_lt h.lt (Nat.mod_lt _ hβ), hi, ?_, fun k hk => ?_, ?_⟩
  · have : (O.getD (j + i) 0 + V[i] + c) / β < 2 := (Nat.div_lt_iff_lt_mul hβ).2 (by omega)
    omega
  · rw [getD_set_ne (by omega)]; exact h.rest k (by omega)
  · have es := dval_set β O (j + i) ((O.getD (j + i) 0 + V[i] + c) % β) (by rw [h.len]; exact hj)
    have ev := h.val
    rw [dval_take_succ β V i hi]
    have hdm := Nat.div_add_mod (O.getD (j + i) 0 + V[i] + c) β
    generalize V[i] = y at *
    generalize O.getD (j + i) 0 = o at *
    generalize (o + y + c) / β = c' at *
    generalize (o + y + c) % β = d at *
    generalize dval β (O.set (j + i) d) = D' at *
    generalize dval β O = D at *
    have hp : β ^ (j + (i + 1)) = β * β ^ (j + i) := by rw [← Nat.add_assoc, Nat.pow_succ, Nat.mul_comm]
    have hpk : β ^ i * y * β ^ j = y * β ^ (j + i) := by rw [Nat.pow_add, Nat.mul_comm (β ^ i) y, Nat.mul_assoc, Nat.mul_comm (β ^ i)]
    rw [hp, Nat.add_mul, hpk]
    generalize β ^ (j + i) = P at *
    generalize dval β (V.take i) * β ^ j = X at *
    generalize dval β U = W at *
    have f2 : (β * c' + d) * P = (o + y + c) * P := by rw [hdm]
    simp only [Nat.add_mul] at f2
    have f4 : β * c' * P = c' * (β * P) := by rw [Nat.mul_comm β, Nat.mul_assoc]
    omega
theorem AbAt.last {β : Nat} {U V : List Nat} {j c : Nat} {O : List Nat} (h : AbAt β U V j V.length c O) (hβ : 0 < β) (hj : j + V.length < U.length) :
    (O.set (j + V.length) ((O.getD (j + V.length) 0 + c) % β)).length = U.length ∧ (∀ x ∈ O.set (j + V.length) ((O.getD (j + V.length) 0 + c) % β), x < β) ∧
    (∀ k, j + V.length < k → (O.set (j + V.length) ((O.getD (j + V.length) 0 + c) % β)).getD k 0 = U.getD k 0) ∧
    dval β (O.set (j + V.length) ((O.getD (j + V.length) 0 + c) % β)) + ((O.getD (j + V.length) 0 + c) / β) * β ^ (j + V.length + 1) = dval β U + dval β V * β ^ j := by
  refine ⟨by rw [List.length_set]; exact h.len, mem_set_lt h.lt (Nat.mod_lt _ hβ), fun k hk => ?_, ?_⟩
  · rw [getD_set_ne (by omega)]; exact h.rest k (by omega)
  · have es := dval_set β O (j + V.length) ((O.getD (j + V.length) 0 + c) % β) (by rw [h.len]; exact hj)
    have ev := h.val
    rw [List.take_of_length_le (Nat.le_refl _)] at ev
    have hdm := Nat.div_add_mod (O.getD (j + V.length) 0 + c) β
    generalize O.getD (j + V.length) 0 = o at *
    generalize (o + c) / β = c' at *
    generalize (o + c) % β = d at *
    generalize dval β (O.set (j + V.length) d) = D' at *
    generalize dval β O = D at *
    rw [Nat.pow_succ]
    generalize β ^ (j + V.length) = P at *
    generalize dval β V * β ^ j = X at *
    generalize dval β U = W at *
    have f1 : (β * c' + d) * P = (o + c) * P := by rw [hdm]
    simp only [Nat.add_mul] at f1
    have f4 : β * c' * P = c' * (P * β) := by rw [Nat.mul_comm β, Nat.mul_assoc, Nat.mul_comm β]
    omega

/-- Where the division stands: the digits of the quotient from j on are found. -/
structure DivAt (β : Nat) (V : List Nat) (S M j : Nat) (U Q : List Nat) : Prop where
  ulen : U.length = M
  ult : ∀ d ∈ U, d < β
  qlen : Q.length = M - V.length
  qlt : ∀ d ∈ Q, d < β
  zero : ∀ i, i < j → Q.getD i 0 = 0
  upto : j + V.length ≤ M
  val : dval β U + dval β Q * dval β V = S
  top : dval β U < dval β V * β ^ j

/-- One digit found: what is left of U, and the digit. -/
theorem DivAt.step {β : Nat} {V : List Nat} {S M j : Nat} {U Q U' : List Nat} (h : DivAt β V S M (j + 1) U Q) (hβ : 0 < β) (q : Nat) (hq : q = dval β U / β ^ j / dval β V)
    (hl : U'.length = M) (hlt : ∀ d ∈ U', d < β) (hv : dval β U' + q * dval β V * β ^ j = dval β U) : DivAt β V S M j U' (Q.set j q) := by
  have htop := h.top
  have hup := h.upto
  have hP : 0 < β ^ j := Nat.pow_pos hβ
  have hVpos : 0 < dval β V := by
    rcases Nat.eq_zero_or_pos (dval β V) with h1 | h1
    · rw [h1] at htop; simp at htop
    · exact h1
  have hqlt : q < β := by
    rw [hq]
    refine Nat.div_lt_of_lt_mul ?_
    refine Nat.div_lt_of_lt_mul ?_
    rw [Nat.pow_succ] at htop
    rw [Nat.mul_left_comm]
    exact htop
  refine ⟨hl, hlt, by rw [List.length_set]; exact h.qlen, mem_set_lt h.qlt hqlt, fun i hi => ?_, by omega, ?_, ?_⟩
  · rw [getD_set_ne (by omega)]; exact h.zero i (by omega)
  · have e := dval_set β Q j q (by rw [h.qlen]; omega)
    rw [h.zero j (by omega), Nat.zero_mul, Nat.add_zero] at e
    rw [e, Nat.add_mul, ← h.val, ← hv]
    have : q * β ^ j * dval β V = q * dval β V * β ^ j := Nat.mul_right_comm ..
    omega
  · have h1 := Nat.div_add_mod (dval β U) (β ^ j)
    have h2 := Nat.div_add_mod (dval β U / β ^ j) (dval β V)
    have h3 := Nat.mod_lt (dval β U) hP
    have h4 := Nat.mod_lt (dval β U / β ^ j) hVpos
    rw [← hq] at h2
    generalize dval β U / β ^ j = T at *
    generalize dval β U % β ^ j = l at *
    generalize T % dval β V = m at *
    generalize dval β V = v at *
    generalize β ^ j = P at *
    have e1 : P * T = P * (v * q + m) := by rw [h2]
    rw [Nat.mul_add] at e1
    have e2 : q * v * P = P * (v * q) := by rw [Nat.mul_comm q, Nat.mul_comm]
    have e3 : (m + 1) * P ≤ v * P := Nat.mul_le_mul_right _ h4
    rw [Nat.add_mul, Nat.mul_comm m] at e3
    omega
/-- Taken away, and no borrow left: the digit was right. -/
theorem ms_right {β : Nat} {U V O : List Nat} {q j : Nat} (hβ : 0 < β) (hV : 0 < dval β V) (hql : dval β U / β ^ j / dval β V ≤ q)
    (h : dval β O + q * dval β V * β ^ j = dval β U) : q = dval β U / β ^ j / dval β V := by
  refine Nat.le_antisymm ?_ hql
  rw [Nat.le_div_iff_mul_le hV, Nat.le_div_iff_mul_le (Nat.pow_pos hβ)]
  omega
/-- A borrow left: it was too great by one, and what is added back brings it round. -/
theorem ms_wrong {β : Nat} {U V O O' : List Nat} {q j b c : Nat} (hβ : 0 < β) (hV : 0 < dval β V) (hqh : q ≤ dval β U / β ^ j / dval β V + 1) (hq0 : 0 < q)
    (hb : 0 < b) (hb1 : b ≤ 1) (hO : dval β O < β ^ (j + V.length + 1)) (hO' : dval β O' < β ^ (j + V.length + 1))
    (h : dval β O + q * dval β V * β ^ j = dval β U + b * β ^ (j + V.length + 1)) (h' : dval β O' + c * β ^ (j + V.length + 1) = dval β O + dval β V * β ^ j) (hc : c ≤ 1) :
    q - 1 = dval β U / β ^ j / dval β V ∧ dval β O' + (q - 1) * dval β V * β ^ j = dval β U := by
  have hb2 : b = 1 := by omega
  subst hb2
  obtain ⟨t, rfl⟩ : ∃ t, q = t + 1 := ⟨q - 1, by omega⟩
  rw [Nat.add_sub_cancel]
  have hgt : dval β U / β ^ j / dval β V < t + 1 := by
    rw [Nat.div_lt_iff_lt_mul hV, Nat.div_lt_iff_lt_mul (Nat.pow_pos hβ)]
    omega
  have ht : t = dval β U / β ^ j / dval β V := by omega
  refine ⟨ht, ?_⟩
  have hle : t * dval β V * β ^ j ≤ dval β U := by
    rw [← Nat.le_div_iff_mul_le (Nat.pow_pos hβ), ← Nat.le_div_iff_mul_le hV]
    omega
  rw [Nat.add_mul, Nat.add_mul, Nat.one_mul] at h
  generalize β ^ (j + V.length + 1) = R at *
  rcases Nat.eq_zero_or_pos c with h0 | h0
  · subst h0; omega
  · have : c = 1 := by omega
    subst this; omega
theorem DivAt.start {β : Nat} {V : List Nat} (U : List Nat) (hβ : 0 < β) (hU : ∀ d ∈ U, d < β) (hle : V.length ≤ U.length) (htop : dval β U < dval β V * β ^ (U.length - V.length)) :
    DivAt β V (dval β U) U.length (U.length - V.length) U (List.replicate (U.length - V.length) 0) := by
  refine ⟨rfl, hU, by simp, fun d hd => by rw [List.eq_of_mem_replicate hd]; exact hβ, fun i _ => ?_, by omega, ?_, htop⟩
  · simp only [List.getD]
    rw [List.getElem?_replicate]
    split <;> rfl
  · have := dval_zeros β [] (U.length - V.length)
    simp only [List.nil_append] at this
    rw [this]; simp [dval]
theorem DivAt.stop {β : Nat} {V : List Nat} {S M : Nat} {U Q : List Nat} (h : DivAt β V S M 0 U Q) : dval β Q = S / dval β V ∧ dval β U = S % dval β V := by
  have ht := h.top
  rw [Nat.pow_zero, Nat.mul_one] at ht
  rw [← h.val]
  constructor
  · rw [Nat.mul_comm, Nat.add_mul_div_left _ _ (by omega), Nat.div_eq_of_lt ht, Nat.zero_add]
  · rw [Nat.mul_comm, Nat.add_mul_mod_self_left, Nat.mod_eq_of_lt ht]
/-- The estimate's beginning. -/
theorem EstAt.start {β : Nat} {V : List Nat} {S M j n : Nat} {U Q : List Nat} (h : DivAt β V S M (j + 1) U Q) (hβ : 0 < β) (hn : V.length = n + 2) (hV : ∀ d ∈ V, d < β) (hv1 : V.getD (n + 1) 0 ≠ 0) :
    EstAt β (dval β U / β ^ j) (dval β V) (β ^ n) (V.getD (n + 1) 0) (V.getD n 0) (U.getD (j + n + 2) 0) (U.getD (j + n + 1) 0) (U.getD (j + n) 0)
      ((U.getD (j + n + 2) 0 * β + U.getD (j + n + 1) 0) / V.getD (n + 1) 0) ((U.getD (j + n + 2) 0 * β + U.getD (j + n + 1) 0) % V.getD (n + 1) 0)
    ∧ U.getD (j + n + 2) 0 ≤ V.getD (n + 1) 0 := by
  have hpos : 0 < V.getD (n + 1) 0 := Nat.pos_of_ne_zero hv1
  have hPn : 0 < β ^ n := Nat.pow_pos hβ
  have eV : dval β V / β ^ n = V.getD (n + 1) 0 * β + V.getD n 0 := by
    rw [← dval_drop V hV n, dval_drop_at, dval_drop_at, List.drop_of_length_le (by omega)]
    simp only [dval, Nat.mul_zero, Nat.add_zero]
    rw [Nat.mul_comm]; omega
  have hVlt : dval β V < β ^ (n + 2) := by have := dval_lt β V hV; rwa [hn] at this
  have hUlt : dval β U < β ^ (j + n + 3) := by
    refine Nat.lt_of_lt_of_le h.top ?_
    have : β ^ (j + n + 3) = β ^ (n + 2) * β ^ (j + 1) := by rw [← Nat.pow_add]; congr 1; omega
    rw [this]; exact Nat.mul_le_mul_right _ (Nat.le_of_lt hVlt)
  have eU : dval β U / β ^ j / β ^ n = (U.getD (j + n + 2) 0 * β + U.getD (j + n + 1) 0) * β + U.getD (j + n) 0 := by
    rw [Nat.div_div_eq_div_mul, ← Nat.pow_add, ← dval_drop U h.ult (j + n), dval_drop_at, dval_drop_at β U (j + n + 1), dval_drop_at β U (j + n + 1 + 1), dval_drop U h.ult (j + n + 1 + 1 + 1),
      Nat.div_eq_of_lt hUlt, Nat.mul_zero, Nat.add_zero]
    have e : j + n + 1 + 1 = j + n + 2 := rfl
    rw [e]
    generalize U.getD (j + n + 2) 0 = a2
    generalize U.getD (j + n + 1) 0 = a1
    rw [Nat.mul_comm β (a1 + _), Nat.add_zero, Nat.mul_comm β a2, Nat.add_comm a1, Nat.add_comm (U.getD (j + n) 0)]
  have hfit : dval β U / β ^ j < dval β V * β := by
    refine Nat.div_lt_of_lt_mul ?_
    have := h.top
    rw [Nat.pow_succ] at this
    rw [Nat.mul_left_comm]; exact this
  have hlt : ∀ i, U.getD i 0 < β := fun i => getD_small h.ult hβ i
  have hmul := Nat.div_add_mod (U.getD (j + n + 2) 0 * β + U.getD (j + n + 1) 0) (V.getD (n + 1) 0)
  have hdU := Nat.div_add_mod (dval β U / β ^ j) (β ^ n)
  have hmU := Nat.mod_lt (dval β U / β ^ j) hPn
  have hdV := Nat.div_add_mod (dval β V) (β ^ n)
  have hmV := Nat.mod_lt (dval β V) hPn
  rw [eU] at hdU
  rw [eV] at hdV
  have hmp := Nat.mod_lt (U.getD (j + n + 2) 0 * β + U.getD (j + n + 1) 0) hpos
  generalize dval β U / β ^ j % β ^ n = ru at hdU hmU
  generalize dval β V % β ^ n = rv at hdV hmV
  refine ⟨⟨hpos, getD_small hV hβ _, hlt _, ?_, ?_, ?_, ?_, hfit, ?_, ?_, ?_⟩, ?_⟩
  · rw [Nat.mul_comm]; omega
  · rw [Nat.add_mul, Nat.mul_comm _ (β ^ n)]; omega
  · rw [Nat.mul_comm]; omega
  · rw [Nat.add_mul, Nat.mul_comm _ (β ^ n)]; omega
  · rw [Nat.mul_comm _ (V.getD (n + 1) 0)]; omega
  · rw [Nat.le_div_iff_mul_le hpos]
    have hVp : 0 < dval β V := by
      rcases Nat.eq_zero_or_pos (dval β V) with h1 | h1
      · rw [h1] at hfit; simp at hfit
      · exact h1
    have a1 : (dval β U / β ^ j / dval β V) * dval β V ≤ dval β U / β ^ j := Nat.div_mul_le_self _ _
    have a2 : (dval β U / β ^ j / dval β V) * (β ^ n * (V.getD (n + 1) 0 * β)) ≤ (dval β U / β ^ j / dval β V) * dval β V := by
      refine Nat.mul_le_mul_left _ ?_
      rw [Nat.mul_add] at hdV
      omega
    generalize dval β U / β ^ j / dval β V = x at *
    generalize V.getD (n + 1) 0 = v1 at *
    have a3 : x * (β ^ n * (v1 * β)) = x * v1 * (β ^ n * β) := by rw [Nat.mul_left_comm (β ^ n), ← Nat.mul_assoc]
    rw [a3] at a2
    have a4 : dval β U / β ^ j < (U.getD (j + n + 2) 0 * β + U.getD (j + n + 1) 0 + 1) * (β ^ n * β) := by
      have h0 := hlt (j + n)
      generalize U.getD (j + n + 2) 0 * β + U.getD (j + n + 1) 0 = t at *
      rw [← hdU]
      have b1 : (t * β + U.getD (j + n) 0 + 1) * β ^ n ≤ ((t + 1) * β) * β ^ n := Nat.mul_le_mul_right _ (by rw [Nat.add_mul]; omega)
      rw [Nat.add_mul, Nat.mul_comm _ (β ^ n), Nat.one_mul] at b1
      rw [Nat.mul_comm (β ^ n) β, ← Nat.mul_assoc]
      omega
    have a5 : x * v1 * (β ^ n * β) < (U.getD (j + n + 2) 0 * β + U.getD (j + n + 1) 0 + 1) * (β ^ n * β) := by omega
    have := Nat.lt_of_mul_lt_mul_right a5
    omega
  · refine Nat.lt_trans (Nat.mod_lt _ hpos) (getD_small hV hβ _)
  · have c1 : U.getD (j + n + 2) 0 * β * β < (V.getD (n + 1) 0 + 1) * β * β := by
      have b1 : dval β U / β ^ j / β ^ n < (V.getD (n + 1) 0 * β + V.getD n 0 + 1) * β := by
        refine Nat.div_lt_of_lt_mul ?_
        refine Nat.lt_of_lt_of_le hfit ?_
        rw [← Nat.mul_assoc]
        refine Nat.mul_le_mul_right _ ?_
        rw [Nat.mul_add]
        omega
      rw [eU] at b1
      have b2 : (V.getD (n + 1) 0 * β + V.getD n 0 + 1) * β ≤ (V.getD (n + 1) 0 + 1) * β * β := by
        refine Nat.mul_le_mul_right _ ?_
        have := getD_small hV hβ n
        rw [Nat.add_mul]; omega
      have b3 : U.getD (j + n + 2) 0 * β * β ≤ (U.getD (j + n + 2) 0 * β + U.getD (j + n + 1) 0) * β := Nat.mul_le_mul_right _ (by omega)
      omega
    have := Nat.lt_of_mul_lt_mul_right (Nat.lt_of_mul_lt_mul_right c1)
    omega
end Go.Proofs.Ytfhkpkebiinglaa
