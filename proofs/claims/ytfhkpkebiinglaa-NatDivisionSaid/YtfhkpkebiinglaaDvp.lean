/-
  The plain laws of the divisions and roots, and the memory of the long division.
-/
import Derived.Test.YtfhkpkebiinglaaKn
import Derived.Test.YtfhkpkebiinglaaMem
import Derived.Test.YtfhkpkebiinglaaDivx
import Derived.Test.YtfhkpkebiinglaaRdw
namespace Go.Proofs.Ytfhkpkebiinglaa
open Go.RowKit

/-- The reference's division: the quotient's digits from k on are found, r is the rest so far. -/
structure QuoAt (A : List Nat) (y k r : Nat) (Q : List Nat) : Prop where
  len : Q.length = A.length
  lt : ∀ d ∈ Q, d < 256
  upto : k ≤ A.length
  zero : ∀ i, i < k → Q.getD i 0 = 0
  rest : r < y
  val : dval 256 Q * y + (r * 256 ^ k + dval 256 (A.take k)) = dval 256 A
theorem QuoAt.start {A : List Nat} {y k : Nat} (hk : k ≤ A.length) (hr : dval 256 (A.drop k) < y) : QuoAt A y k (dval 256 (A.drop k)) (List.replicate A.length 0) := by
  refine ⟨by simp, fun d hd => by rw [List.eq_of_mem_replicate hd]; omega, hk, fun i _ => ?_, hr, ?_⟩
  · simp only [List.getD]
    rw [List.getElem?_replicate]
    split <;> rfl
  · have h0 := dval_zeros 256 [] A.length
    simp only [List.nil_append] at h0
    rw [h0]
    conv => rhs; rw [← List.take_append_drop k A, dval_append]
    rw [List.length_take, Nat.min_eq_left hk, Nat.mul_comm (dval 256 (A.drop k))]
    simp only [dval, Nat.zero_mul, Nat.zero_add]
    exact Nat.add_comm _ _
theorem QuoAt.quot {A : List Nat} {y k r : Nat} {Q : List Nat} (h : QuoAt A y (k + 1) r Q) (hA : ∀ d ∈ A, d < 256) : (256 * r + A.getD k 0) / y < 256 := by
  have h1 := h.rest
  have h2 := getD_small hA (show 0 < 256 by omega) k
  refine Nat.div_lt_of_lt_mul ?_
  rw [Nat.mul_comm y]; omega
theorem QuoAt.step {A : List Nat} {y k r : Nat} {Q : List Nat} (h : QuoAt A y (k + 1) r Q) (hA : ∀ d ∈ A, d < 256) :
    QuoAt A y k ((256 * r + A.getD k 0) % y) (Q.set k ((256 * r + A.getD k 0) / y)) := by
  have h1 := h.rest
  have hup := h.upto
  have hq := h.quot hA
  have hkA : k < A.length := by omega
  refine ⟨by rw [List.length_set]; exact h.len, mem_set_lt h.lt hq, by omega, fun i hi => ?_, Nat.mod_lt _ (by omega), ?_⟩
  · rw [getD_set_ne (by omega)]; exact h.zero i (by omega)
  · have hv := h.val
    have es := dval_set 256 Q k ((256 * r + A.getD k 0) / y) (by rw [h.len]; omega)
    rw [h.zero k (by omega), Nat.zero_mul, Nat.add_zero] at es
    have hdm := Nat.div_add_mod (256 * r + A.getD k 0) y
    rw [dval_take_succ 256 A k hkA, Nat.pow_succ] at hv
    rw [getD_lt hkA] at es hdm ⊢
    rw [es]
    generalize A[k] = x at *
    generalize (256 * r + x) / y = q at *
    generalize (256 * r + x) % y = s at *
    generalize 256 ^ k = P at *
    rw [← hv, Nat.add_mul]
    have e1 : q * P * y + s * P = (y * q + s) * P := by rw [Nat.add_mul, Nat.mul_comm y, Nat.mul_right_comm]
    have e2 : (y * q + s) * P = (256 * r + x) * P := by rw [hdm]
    have e3 : (256 * r + x) * P = r * (P * 256) + P * x := by rw [Nat.add_mul, Nat.mul_comm x, Nat.mul_comm P 256, Nat.mul_left_comm, Nat.mul_assoc]
    omega
theorem QuoAt.stop {A : List Nat} {y r : Nat} {Q : List Nat} (h : QuoAt A y 0 r Q) : dval 256 Q = dval 256 A / y ∧ r = dval 256 A % y := by
  have hv := h.val
  have hr := h.rest
  simp only [Nat.pow_zero, Nat.mul_one, List.take_zero, dval, Nat.add_zero] at hv
  rw [← hv]
  constructor
  · rw [Nat.mul_comm, Nat.mul_add_div (by omega), Nat.div_eq_of_lt hr, Nat.add_zero]
  · rw [Nat.mul_comm, Nat.mul_add_mod, Nat.mod_eq_of_lt hr]
/-- The search for one digit. -/
structure SeekAt (y R lo hi : Nat) : Prop where
  low : lo * y ≤ R
  high : R < (hi + 1) * y
  le : lo ≤ hi
theorem SeekAt.up {y R lo hi : Nat} (h : SeekAt y R lo hi) (m : Nat) (hm : m ≤ hi) (hc : m * y ≤ R) : SeekAt y R m hi := ⟨hc, h.high, hm⟩
theorem SeekAt.down {y R lo hi : Nat} (h : SeekAt y R lo hi) (m : Nat) (hm : lo < m) (hc : ¬ m * y ≤ R) : SeekAt y R lo (m - 1) :=
  ⟨h.low, by rw [Nat.sub_add_cancel (by omega)]; omega, by omega⟩
theorem SeekAt.found {y R lo : Nat} (h : SeekAt y R lo lo) (hy : 0 < y) : R / y = lo := by
  have h1 : lo ≤ R / y := (Nat.le_div_iff_mul_le hy).2 h.low
  have h2 : R / y < lo + 1 := (Nat.div_lt_iff_lt_mul hy).2 h.high
  omega

/-- The whole square root. -/
def IsRt (n r : Nat) : Prop := r * r ≤ n ∧ n < (r + 1) * (r + 1)
theorem IsRt.eq {n r s : Nat} (h : IsRt n r) (k : IsRt n s) : r = s := by
  rcases Nat.lt_trichotomy r s with h1 | h1 | h1
  · have := Nat.mul_le_mul (show r + 1 ≤ s from h1) (show r + 1 ≤ s from h1)
    have := h.2; have := k.1; omega
  · exact h1
  · have := Nat.mul_le_mul (show s + 1 ≤ r from h1) (show s + 1 ≤ r from h1)
    have := k.2; have := h.1; omega
/-- Bit by bit: the bits from i on are found. -/
def BitAt (n i r : Nat) : Prop := r * r ≤ n ∧ n < (r + 2 ^ i) * (r + 2 ^ i)
theorem BitAt.start {n k : Nat} (h : n < 2 ^ k * 2 ^ k) : BitAt n k 0 := ⟨by omega, by simpa using h⟩
theorem BitAt.take {n i r : Nat} (h : BitAt n (i + 1) r) (hm : (r + 2 ^ i) * (r + 2 ^ i) ≤ n) : BitAt n i (r + 2 ^ i) := by
  refine ⟨hm, ?_⟩
  have e : r + 2 ^ i + 2 ^ i = r + 2 ^ (i + 1) := by rw [Nat.pow_succ]; omega
  rw [e]; exact h.2
theorem BitAt.leave {n i r : Nat} (h : BitAt n (i + 1) r) (hm : ¬ (r + 2 ^ i) * (r + 2 ^ i) ≤ n) : BitAt n i r := ⟨h.1, by omega⟩
theorem BitAt.stop {n r : Nat} (h : BitAt n 0 r) : IsRt n r := ⟨h.1, by simpa using h.2⟩
/-- Newton's step from above stays above. -/
theorem newton_above {n r : Nat} (hr : 0 < r) : n < ((r + n / r) / 2 + 1) * ((r + n / r) / 2 + 1) := by
  have h1 : n < (n / r + 1) * r := by
    have := Nat.div_add_mod n r
    have := Nat.mod_lt n hr
    rw [Nat.add_mul, Nat.mul_comm (n / r)]; omega
  generalize n / r = q at *
  obtain ⟨m, hm⟩ : ∃ m, m = (r + q) / 2 := ⟨_, rfl⟩
  rw [← hm]
  have h2 : r + (q + 1) ≤ 2 * (m + 1) := by omega
  have h3 := Nat.mul_le_mul h2 h2
  have h4 : 4 * ((q + 1) * r) ≤ (r + (q + 1)) * (r + (q + 1)) := by
    generalize q + 1 = p at *
    rcases Nat.le_total r p with hle | hle
    · obtain ⟨d, rfl⟩ := Nat.le.dest hle
      have : (r + (r + d)) * (r + (r + d)) = 4 * ((r + d) * r) + d * d := by
        simp only [Nat.add_mul, Nat.mul_add]
        have := Nat.mul_comm r d
        omega
      omega
    · obtain ⟨d, rfl⟩ := Nat.le.dest hle
      have : (p + d + p) * (p + d + p) = 4 * (p * (p + d)) + d * d := by
        simp only [Nat.add_mul, Nat.mul_add]
        have := Nat.mul_comm p d
        omega
      omega
  have h5 : 2 * (m + 1) * (2 * (m + 1)) = 4 * ((m + 1) * (m + 1)) := by
    rw [Nat.mul_mul_mul_comm]
  omega
theorem newton_stop {n r : Nat} (hr : 0 < r) (h : n < (r + 1) * (r + 1)) (hs : r ≤ (r + n / r) / 2) : IsRt n r := by
  refine ⟨?_, h⟩
  rw [← Nat.le_div_iff_mul_le hr]
  omega
theorem newton_pos {n r : Nat} (hn : 0 < n) (h : n < ((r + n / r) / 2 + 1) * ((r + n / r) / 2 + 1)) : 0 < (r + n / r) / 2 := by
  rcases Nat.eq_zero_or_pos ((r + n / r) / 2) with h0 | h0
  · rw [h0] at h; omega
  · exact h0
theorem gcd_step (x y : Nat) : Nat.gcd x y = Nat.gcd y (x % y) := by rw [Nat.gcd_comm x y, Nat.gcd_rec y x, Nat.gcd_comm]

theorem DivAt.size {β : Nat} {V : List Nat} {S M j : Nat} {U Q : List Nat} (h : DivAt β V S M (j + 1) U Q) (hV : ∀ d ∈ V, d < β) : dval β U < β ^ (j + V.length + 1) := by
  refine Nat.lt_of_lt_of_le h.top ?_
  have : β ^ (j + V.length + 1) = β ^ V.length * β ^ (j + 1) := by rw [← Nat.pow_add]; congr 1; omega
  rw [this]; exact Nat.mul_le_mul_right _ (Nat.le_of_lt (dval_lt β V hV))
theorem DivAt.vpos {β : Nat} {V : List Nat} {S M j : Nat} {U Q : List Nat} (h : DivAt β V S M j U Q) : 0 < dval β V := by
  have htop := h.top
  rcases Nat.eq_zero_or_pos (dval β V) with h1 | h1
  · rw [h1] at htop; simp at htop
  · exact h1
/-- The digit is nought: nothing is done. -/
theorem DivAt.skip {β : Nat} {V : List Nat} {S M j : Nat} {U Q : List Nat} (h : DivAt β V S M (j + 1) U Q) (hβ : 0 < β) (hq : dval β U / β ^ j / dval β V ≤ 0) : DivAt β V S M j U Q := by
  have h1 := h.step hβ 0 (Nat.le_zero.1 hq).symm h.ulen h.ult (by simp)
  have e : Q.set j 0 = Q := by
    have hj : j < Q.length := by rw [h.qlen]; have := h.upto; omega
    have := h.zero j (by omega)
    rw [getD_lt hj] at this
    apply List.ext_getElem (by simp)
    intro i h2 h3
    rw [List.getElem_set]
    split
    · next hji => subst hji; rw [this]
    · rfl
  rw [e] at h1; exact h1
/-- Taken away without a borrow. -/
theorem DivAt.right {β : Nat} {V : List Nat} {S M j q c b : Nat} {U Q O : List Nat} (h : DivAt β V S M (j + 1) U Q) (hβ : 0 < β) (hql : dval β U / β ^ j / dval β V ≤ q)
    (hm : MsAt β U V q j V.length c b O) (d : Nat) (hd : d < β) (e : O.getD (j + V.length) 0 = d + c + b) : DivAt β V S M j (O.set (j + V.length) d) (Q.set j q) := by
  have hup := h.upto
  obtain ⟨h1, h2, _, h4⟩ := hm.last (by rw [h.ulen]; omega) d 0 hd (by omega)
  have h5 : dval β (O.set (j + V.length) d) + q * dval β V * β ^ j = dval β U := by rw [h4]; simp
  exact h.step hβ q (ms_right hβ h.vpos hql h5) (by rw [h1, h.ulen]) h2 h5
/-- What is taken away left a borrow. -/
structure WrAt (β : Nat) (U V : List Nat) (q j : Nat) (O : List Nat) : Prop where
  len : O.length = U.length
  lt : ∀ x ∈ O, x < β
  rest : ∀ k, j + V.length < k → O.getD k 0 = U.getD k 0
  val : dval β O + q * dval β V * β ^ j = dval β U + 1 * β ^ (j + V.length + 1)
theorem DivAt.borrowed {β : Nat} {V : List Nat} {S M j q c b : Nat} {U Q O : List Nat} (h : DivAt β V S M (j + 1) U Q)
    (hm : MsAt β U V q j V.length c b O) (d : Nat) (hd : d < β) (e : O.getD (j + V.length) 0 + β = d + c + b) : WrAt β U V q j (O.set (j + V.length) d) := by
  have hup := h.upto
  obtain ⟨h1, h2, h3, h4⟩ := hm.last (by rw [h.ulen]; omega) d 1 hd (by omega)
  exact ⟨h1, h2, h3, h4⟩
theorem DivAt.wrong {β : Nat} {V : List Nat} {S M j q c : Nat} {U Q O O' : List Nat} (h : DivAt β V S M (j + 1) U Q) (hβ : 0 < β) (hV : ∀ d ∈ V, d < β)
    (hqh : q ≤ dval β U / β ^ j / dval β V + 1) (hq0 : 0 < q) (hw : WrAt β U V q j O) (ha : AbAt β O V j V.length c O') :
    DivAt β V S M j (O'.set (j + V.length) ((O'.getD (j + V.length) 0 + c) % β)) (Q.set j (q - 1)) := by
  have hup := h.upto
  obtain ⟨h1, h2, h3, h4⟩ := ha.last hβ (by rw [hw.len, h.ulen]; omega)
  have hs := h.size hV
  have z : ∀ k, j + V.length + 1 ≤ k → U.getD k 0 = 0 := dval_above U h.ult _ hs
  have s1 : dval β O < β ^ (j + V.length + 1) := dval_small hβ O hw.lt _ fun i hi => by rw [hw.rest i (by omega), z i hi]
  have s2 := dval_small hβ _ h2 (j + V.length + 1) fun i hi => by rw [h3 i (by omega), hw.rest i (by omega), z i hi]
  have hc1 : (O'.getD (j + V.length) 0 + c) / β ≤ 1 := by
    have := getD_small ha.lt hβ (j + V.length)
    have hc := ha.carry
    have : (O'.getD (j + V.length) 0 + c) / β < 2 := (Nat.div_lt_iff_lt_mul hβ).2 (by omega)
    omega
  obtain ⟨k1, k2⟩ := ms_wrong hβ h.vpos hqh hq0 (by omega) (Nat.le_refl 1) s1 s2 hw.val h4 hc1
  exact h.step hβ (q - 1) k1 (by rw [h1, hw.len, h.ulen]) h2 k2
/-- One digit's difference, as the machine has it. -/
theorem diff64 (o l b : Nat) (ho : o < 4294967296) (hl : l < 4294967296) (hb : b ≤ 1) (x : Nat) (hx : (x : Int) = IntKind.u64.wrap (IntKind.u64.wrap ((o : Int) - l) - b)) :
    x / 9223372036854775808 ≤ 1 ∧ o + x / 9223372036854775808 * 4294967296 = x % 4294967296 + l + b := by
  rw [IntKind.wrap_u64, IntKind.wrap_u64] at hx
  omega

theorem MsAt.step_walk {U V O : List Nat} {q k i c b n : Nat} (h : MsAt 4294967296 U V q k i c b O) (hq : q < 4294967296) (hV : ∀ d ∈ V, d < 4294967296) (hn : V.length = n) (hi : i < n) (hj : k + n < U.length) (x : Nat)
    (hx : (x : Int) = IntKind.u64.wrap (IntKind.u64.wrap ((O.getD (i + k) 0 : Nat) - (((c + q * V.getD i 0) % 4294967296 : Nat) : Int)) - b)) :
    x / 9223372036854775808 ≤ 1 ∧ MsAt 4294967296 U V q k (i + 1) ((c + q * V.getD i 0) / 4294967296) (x / 9223372036854775808) (O.set (i + k) (x % 4294967296)) := by
  have ho := getD_small h.lt (show 0 < 4294967296 by omega) (i + k)
  obtain ⟨h1, h2⟩ := diff64 _ _ b ho (Nat.mod_lt (c + q * V.getD i 0) (by omega)) h.borrow x hx
  refine ⟨h1, ?_⟩
  have hiV : i < V.length := by omega
  rw [Nat.add_comm i k] at h2 ⊢
  rw [getD_lt hiV] at h2 ⊢
  exact h.step hq hV hiV (by omega) _ _ (Nat.mod_lt _ (by omega)) h1 h2
theorem DivAt.last_walk {V : List Nat} {S M k q c b x n : Nat} {U Q O : List Nat} (h : DivAt 4294967296 V S M (k + 1) U Q) (hql : dval 4294967296 U / 4294967296 ^ k / dval 4294967296 V ≤ q)
    (hn : V.length = n) (hm : MsAt 4294967296 U V q k n c b O) (hx : (x : Int) = IntKind.u64.wrap (IntKind.u64.wrap ((O.getD (k + n) 0 : Nat) - (c : Int)) - b)) :
    (x / 9223372036854775808 = 0 → DivAt 4294967296 V S M k (O.set (k + n) (x % 4294967296)) (Q.set k q)) ∧
    (x / 9223372036854775808 ≠ 0 → WrAt 4294967296 U V q k (O.set (k + n) (x % 4294967296))) := by
  subst hn
  have ho := getD_small hm.lt (show 0 < 4294967296 by omega) (k + V.length)
  obtain ⟨h1, h2⟩ := diff64 _ _ b ho hm.carry hm.borrow x hx
  refine ⟨fun h0 => ?_, fun h0 => ?_⟩
  · rw [h0] at h2
    exact h.right (by omega) hql hm _ (Nat.mod_lt _ (by omega)) (by omega)
  · have e1 : x / 9223372036854775808 = 1 := by omega
    rw [e1] at h2
    exact h.borrowed hm _ (Nat.mod_lt _ (by omega)) (by omega)
theorem AbAt.step_walk {U V O : List Nat} {k i c n : Nat} (h : AbAt 4294967296 U V k i c O) (hV : ∀ d ∈ V, d < 4294967296) (hn : V.length = n) (hi : i < n) (hj : k + n < U.length) :
    AbAt 4294967296 U V k (i + 1) ((O.getD (i + k) 0 + V.getD i 0 + c) / 4294967296) (O.set (i + k) ((O.getD (i + k) 0 + V.getD i 0 + c) % 4294967296)) := by
  have hiV : i < V.length := by omega
  have := h.step hV hiV (by omega)
  rw [Nat.add_comm i k, getD_lt hiV]
  exact this
theorem DivAt.wrong_walk {V : List Nat} {S M k q c n : Nat} {U Q O O' : List Nat} (h : DivAt 4294967296 V S M (k + 1) U Q) (hV : ∀ d ∈ V, d < 4294967296)
    (hqh : q ≤ dval 4294967296 U / 4294967296 ^ k / dval 4294967296 V + 1) (hq0 : 0 < q) (hn : V.length = n) (hw : WrAt 4294967296 U V q k O) (ha : AbAt 4294967296 O V k n c O') :
    DivAt 4294967296 V S M k (O'.set (k + n) ((O'.getD (k + n) 0 + c) % 4294967296)) (Q.set k (q - 1)) := by
  subst hn
  exact h.wrong (by omega) hV hqh hq0 hw ha
theorem meas_down (k : Nat) : (intOf (.int .i64 ((k : Int) - 1)) + 1).toNat < (intOf (.int .i64 (k : Int)) + 1).toNat := by
  show ((k : Int) - 1 + 1).toNat < ((k : Int) + 1).toNat
  omega
theorem meas_up (n i : Nat) (h : i < n) : n - (intOf (.int .i64 ((i : Int) + 1))).toNat < n - (intOf (.int .i64 (i : Int))).toNat := by
  show n - ((i : Int) + 1).toNat < n - (i : Int).toNat
  omega

/-- u and out: two rows of the call's own in blocks of their own. -/
structure DivOwn (w0 w : World) (gu nu cu gq nq : Nat) (U Q : List Nat) : Prop where
  u : Ap w0 91 .u32 (.slice (some ⟨gu, 0, none⟩) nu cu) U w
  q : Ap w0 91 .u32 (.slice (some ⟨gq, 0, none⟩) nq nq) Q w
  ul : U.length = nu
  ql : Q.length = nq
  ne : gu ≠ gq
theorem DivOwn.storeU {w0 w : World} {gu nu cu gq nq : Nat} {U Q : List Nat} (h : DivOwn w0 w gu nu cu gq nq U Q) (j d : Nat) : DivOwn w0 (w.setCell ⟨gu, j, none⟩ (.int .u32 (d : Nat))) gu nu cu gq nq (U.set j d) Q := by
  have hs := h.u.store h.ul j d
  refine ⟨hs, ⟨ownsRow_setCell_other h.q.own (fun e => h.ne ?_) _, hs.below⟩, by rw [List.length_set]; exact h.ul, h.ql, h.ne⟩
  simpa [Value.ownBlock] using e.symm
theorem DivOwn.storeQ {w0 w : World} {gu nu cu gq nq : Nat} {U Q : List Nat} (h : DivOwn w0 w gu nu cu gq nq U Q) (j d : Nat) : DivOwn w0 (w.setCell ⟨gq, j, none⟩ (.int .u32 (d : Nat))) gu nu cu gq nq U (Q.set j d) := by
  have hs := h.q.store h.ql j d
  refine ⟨⟨ownsRow_setCell_other h.u.own (fun e => h.ne ?_) _, hs.below⟩, hs, h.ul, by rw [List.length_set]; exact h.ql, h.ne⟩
  simpa [Value.ownBlock] using e
theorem DivOwn.drew {w0 w : World} {gu nu cu gq nq : Nat} {U Q : List Nat} (h : DivOwn w0 w gu nu cu gq nq U Q) : DivOwn w0 w.drew gu nu cu gq nq U Q := ⟨h.u.drew, h.q.drew, h.ul, h.ql, h.ne⟩
theorem DivOwn.drewN {w0 w : World} {gu nu cu gq nq : Nat} {U Q : List Nat} (h : DivOwn w0 w gu nu cu gq nq U Q) (m : Nat) : DivOwn w0 (w.drewN m) gu nu cu gq nq U Q :=
  ⟨⟨h.u.own, ⟨h.u.below.os, h.u.below.tape, h.u.below.output, h.u.below.size, h.u.below.block⟩⟩, ⟨h.q.own, ⟨h.q.below.os, h.q.below.tape, h.q.below.output, h.q.below.size, h.q.below.block⟩⟩, h.ul, h.ql, h.ne⟩
theorem DivOwn.getU {w0 w : World} {gu nu cu gq nq : Nat} {U Q : List Nat} (h : DivOwn w0 w gu nu cu gq nq U Q) (i : Nat) (hi : i < nu) : w.cell? ⟨gu, i, none⟩ = some (.int .u32 ((U.getD i 0 : Nat) : Int)) := by
  rw [h.u.cell i (by rw [h.ul]; exact hi), getD_lt (by rw [h.ul]; exact hi)]
theorem DivOwn.getQ {w0 w : World} {gu nu cu gq nq : Nat} {U Q : List Nat} (h : DivOwn w0 w gu nu cu gq nq U Q) (i : Nat) (hi : i < nq) : w.cell? ⟨gq, i, none⟩ = some (.int .u32 ((Q.getD i 0 : Nat) : Int)) := by
  rw [h.q.cell i (by rw [h.ql]; exact hi), getD_lt (by rw [h.ql]; exact hi)]
theorem DivOwn.frU {w0 w : World} {gu nu cu gq nq : Nat} {U Q : List Nat} (h : DivOwn w0 w gu nu cu gq nq U Q) (i : Nat) : w.frozen? ⟨gu, i, none⟩ = false := h.u.frozen h.ul i
theorem DivOwn.frQ {w0 w : World} {gu nu cu gq nq : Nat} {U Q : List Nat} (h : DivOwn w0 w gu nu cu gq nq U Q) (i : Nat) : w.frozen? ⟨gq, i, none⟩ = false := h.q.frozen h.ql i
theorem DivOwn.rowU {w0 w : World} {gu nu cu gq nq : Nat} {U Q : List Nat} (h : DivOwn w0 w gu nu cu gq nq U Q) : RowAt w .u32 (some ⟨gu, 0, none⟩) cu U := by
  have := h.u.own
  rw [h.ul] at this
  exact (own_row this).2
theorem DivOwn.rowQ {w0 w : World} {gu nu cu gq nq : Nat} {U Q : List Nat} (h : DivOwn w0 w gu nu cu gq nq U Q) : RowAt w .u32 (some ⟨gq, 0, none⟩) nq Q := by
  have := h.q.own
  rw [h.ql] at this
  exact (own_row this).2
/-- The end of div: what the last three calls answer. -/
theorem DivOwn.ends {w0 w : World} {gu nu cu gq nq s x y : Nat} {U Q : List Nat} (h : DivOwn w0 w gu nu cu gq nq U Q) (hU : ∀ d ∈ U, d < 4294967296) (hQ : ∀ d ∈ Q, d < 4294967296) (hl : nu ≤ 5000) (hs : s ≤ 32)
    (ea : dval 4294967296 Q = x / y ∧ dval 4294967296 U / 2 ^ s = x % y) :
    ∃ nr, Hid (Calls Try.prog 83 #[.slice (some ⟨gq, 0, none⟩) nq nq] w fun e w' => e = .returned (.slice (some ⟨gq, 0, none⟩) (digs 4294967296 (x / y)).length nq) ∧ w = w') ∧
      Hid (Calls Try.prog 83 #[.slice (some ⟨gu, 0, none⟩) nu cu] w fun e w' => e = .returned (.slice (some ⟨gu, 0, none⟩) nr cu) ∧ w = w') ∧
      Hid (Calls Try.prog 68 #[.slice (some ⟨gu, 0, none⟩) nr cu, .int .i64 (s : Int)] w (GaveRow 91 .u32 (digs 4294967296 (x % y)) w)) ∧
      Hid (RowAt w .u32 (some ⟨gq, 0, none⟩) nq (digs 4294967296 (x / y))) := by
  have c1 := cut_n _ nq nq Q h.ql hQ w h.rowQ
  have c2 := cut_n _ nu cu U h.ul hU w h.rowU
  have r1 := h.rowQ.cut hQ
  have r2 := h.rowU.cut hU
  have hl2 := digs_le (B := 4294967296) (by omega) U hU
  rw [h.ul] at hl2
  have c3 := right_any _ _ cu (digs 4294967296 (dval 4294967296 U)) rfl s (digs_lt (by omega) _) (by omega) (by omega) w r2
  rw [dval_digs (by omega), ea.2] at c3
  rw [ea.1] at c1 r1
  exact ⟨_, c1, c2, c3, r1⟩
theorem DivOwn.szU {w0 w : World} {gu nu cu gq nq : Nat} {U Q : List Nat} (h : DivOwn w0 w gu nu cu gq nq U Q) : gu < w.heap.size := (h.u.own.lt gu rfl).2
theorem DivOwn.szQ {w0 w : World} {gu nu cu gq nq : Nat} {U Q : List Nat} (h : DivOwn w0 w gu nu cu gq nq U Q) : gq < w.heap.size := (h.q.own.lt gq rfl).2
/-- The estimate's beginning, with the length as a letter. -/
theorem DivAt.start_est {β : Nat} {V : List Nat} {S M j n : Nat} {U Q : List Nat} (h : DivAt β V S M (j + 1) U Q) (hβ : 0 < β) (hn : V.length = n) (hn2 : 2 ≤ n) (hV : ∀ d ∈ V, d < β) (hv1 : V.getD (n - 1) 0 ≠ 0) :
    EstAt β (dval β U / β ^ j) (dval β V) (β ^ (n - 2)) (V.getD (n - 1) 0) (V.getD (n - 2) 0) (U.getD (j + n) 0) (U.getD (j + n - 1) 0) (U.getD (j + n - 2) 0)
      ((U.getD (j + n) 0 * β + U.getD (j + n - 1) 0) / V.getD (n - 1) 0) ((U.getD (j + n) 0 * β + U.getD (j + n - 1) 0) % V.getD (n - 1) 0)
    ∧ U.getD (j + n) 0 ≤ V.getD (n - 1) 0 := by
  obtain ⟨m, rfl⟩ : ∃ m, n = m + 2 := ⟨n - 2, by omega⟩
  exact EstAt.start h hβ hn hV hv1
theorem and_low (x : Nat) (hx : x < 18446744073709551616) : bits .and .u64 (x : Int) 4294967295 = ((x % 4294967296 : Nat) : Int) := by
  have key : bits .and .u64 (x : Int) ((4294967295 : Nat) : Int) = IntKind.u64.wrap ((BitVec.ofNat 64 x &&& BitVec.ofNat 64 4294967295).toNat : Int) := by
    rw [← BitVec.ofInt_natCast, ← BitVec.ofInt_natCast]; rfl
  have h2 := Nat.and_two_pow_sub_one_eq_mod x 32
  have h3 : (2 : Nat) ^ 32 - 1 = 4294967295 := rfl
  rw [h3] at h2
  have e : (4294967295 : Int) = ((4294967295 : Nat) : Int) := rfl
  rw [e, key, IntKind.wrap_u64, BitVec.toNat_and, BitVec.toNat_ofNat, BitVec.toNat_ofNat, Nat.mod_eq_of_lt (a := x) (by omega), Nat.mod_eq_of_lt (a := 4294967295) (by omega), h2]
  have : (2 : Nat) ^ 32 = 4294967296 := rfl
  rw [this]; omega
theorem cast_div (x y : Nat) : (x : Int) / (y : Int) = ((x / y : Nat) : Int) := (Int.natCast_ediv x y).symm
theorem high_or (x y : Nat) (hx : x < 4294967296) (hy : y < 4294967296) : bits .or .u64 ((x : Int) * 4294967296) (y : Int) = ((x * 4294967296 + y : Nat) : Int) := by
  have e : ((x : Int) * 4294967296) = ((x * 4294967296 : Nat) : Int) := by omega
  have := or_low y x 32 hy
  rw [e, bits_or64 _ _ (by omega) (by omega), Nat.or_comm, this, Nat.add_comm]
theorem zeros_get (n i : Nat) : (List.replicate n 0).getD i 0 = 0 := by
  simp only [List.getD]
  rw [List.getElem?_replicate]
  split <;> rfl
/-- What div begins with. -/
theorem DivAt.begin {x y s : Nat} (hy : 0 < y) (hle : y ≤ x) :
    (digs 4294967296 (y * 2 ^ s)).length ≤ (digs 4294967296 (x * 2 ^ s)).length ∧
    DivAt 4294967296 (digs 4294967296 (y * 2 ^ s)) (x * 2 ^ s) ((digs 4294967296 (x * 2 ^ s)).length + 1) ((digs 4294967296 (x * 2 ^ s)).length + 1 - (digs 4294967296 (y * 2 ^ s)).length)
      (digs 4294967296 (x * 2 ^ s) ++ [0]) (List.replicate ((digs 4294967296 (x * 2 ^ s)).length + 1 - (digs 4294967296 (y * 2 ^ s)).length) 0) := by
  have h2 : 0 < 2 ^ s := Nat.two_pow_pos s
  have hxy : y * 2 ^ s ≤ x * 2 ^ s := Nat.mul_le_mul_right _ hle
  have hy2 : 0 < y * 2 ^ s := Nat.mul_pos hy h2
  generalize x * 2 ^ s = X at *
  generalize y * 2 ^ s = Y at *
  have hX := digs_len (B := 4294967296) (by omega) X (digs 4294967296 X).length
  have hY := digs_len (B := 4294967296) (by omega) Y (digs 4294967296 X).length
  have hYb := digs_len (B := 4294967296) (by omega) Y ((digs 4294967296 Y).length - 1)
  have hXl := hX.1 (Nat.le_refl _)
  have hYl := hY.2 (by omega)
  refine ⟨hYl, ?_⟩
  have hne : (digs 4294967296 Y).length ≠ 0 := fun e => by
    have := (digs_len (B := 4294967296) (by omega) Y 0).1 (by omega)
    omega
  have hlow : 4294967296 ^ ((digs 4294967296 Y).length - 1) ≤ Y := Nat.le_of_not_lt fun h => by have := hYb.2 h; omega
  have hv : dval 4294967296 (digs 4294967296 X ++ [0]) = X := by
    rw [dval_snoc, dval_digs (by omega)]; simp
  have h := DivAt.start (β := 4294967296) (V := digs 4294967296 Y) (digs 4294967296 X ++ [0]) (by omega) (snoc_lt (digs_lt (by omega) X) (by omega)) (by simp; omega) ?_
  · simp only [List.length_append, List.length_singleton, hv] at h
    exact h
  · rw [hv, dval_digs (by omega), List.length_append, List.length_singleton]
    refine Nat.lt_of_lt_of_le hXl ?_
    have : 4294967296 ^ (digs 4294967296 X).length = 4294967296 ^ ((digs 4294967296 Y).length - 1) * 4294967296 ^ ((digs 4294967296 X).length + 1 - (digs 4294967296 Y).length) := by
      rw [← Nat.pow_add]; congr 1; omega
    rw [this]
    exact Nat.mul_le_mul_right _ hlow
theorem digs_top {B : Nat} (hB : 2 ≤ B) (y : Nat) (n : Nat) (hn : (digs B y).length = n + 1) : (digs B y).getD n 0 ≠ 0 := by
  have h := digs_getLast (B := B) hB y
  intro e
  apply h
  rw [List.getLast?_eq_getElem?, hn, Nat.add_sub_cancel]
  simp only [List.getD] at e
  rw [List.getElem?_eq_getElem (by omega)] at e ⊢
  simpa using e
theorem digs_grow {x s k : Nat} (h : x < 4294967296 ^ k) (hs : s ≤ 32) : (digs 4294967296 (x * 2 ^ s)).length ≤ k + 1 := by
  refine (digs_len (by omega) _ _).2 ?_
  rw [Nat.pow_succ]
  have : 2 ^ s ≤ 4294967296 := Nat.pow_le_pow_right (n := 2) (i := s) (j := 32) (by omega) hs
  refine Nat.lt_of_lt_of_le (Nat.mul_lt_mul_of_pos_right h (Nat.two_pow_pos s)) (Nat.mul_le_mul_left _ this)
theorem digs_two {y s : Nat} (hy : 4294967296 ≤ y) : 2 ≤ (digs 4294967296 (y * 2 ^ s)).length := by
  rcases Nat.lt_or_ge (digs 4294967296 (y * 2 ^ s)).length 2 with h | h
  · have := (digs_len (B := 4294967296) (by omega) (y * 2 ^ s) 1).1 (by omega)
    have h2 : y * 1 ≤ y * 2 ^ s := Nat.mul_le_mul_left _ (Nat.two_pow_pos s)
    simp at this
    omega
  · exact h
/-- What div hands back. -/
theorem DivAt.answer {x y s M : Nat} {U Q : List Nat} (h : DivAt 4294967296 (digs 4294967296 (y * 2 ^ s)) (x * 2 ^ s) M 0 U Q) : dval 4294967296 Q = x / y ∧ dval 4294967296 U / 2 ^ s = x % y := by
  have hs := h.stop
  rw [dval_digs (by omega)] at hs
  have h2 : 0 < 2 ^ s := Nat.two_pow_pos s
  refine ⟨by rw [hs.1, Nat.mul_div_mul_right _ _ h2], by rw [hs.2, Nat.mul_mod_mul_right, Nat.mul_div_cancel _ h2]⟩
theorem bitLen_u32 (x : Nat) (h : x < 4294967296) : Lib.bitLen x ≤ 32 := by
  rw [bitLen_blen x h]
  exact (blen_le x 32).2 h
end Go.Proofs.Ytfhkpkebiinglaa
