/-
  Numbers as bytes: rows of limbs, Check, Of, Small, open, shut: turned from the seat of nat.
-/
import Derived.Test.YtacpakmglmfgnaaTe
import Derived.Test.YtacpakmglmfgnaaNs
import Derived.RegionTactic
import Derived.ChangeAlike
import Derived.Laws.BytesArg
import Derived.Deep.RegionHeld3
import Derived.Lib.ItoaNum
namespace Go.Proofs.Ytacpakmglmfgnaa
open Go.RowKit

def dval (B : Nat) : List Nat → Nat
  | [] => 0
  | d :: l => d + B * dval B l
/-- A number's digits, no nought at the end; 'f' bounds how many. -/
def digsF (B : Nat) : Nat → Nat → List Nat
  | 0, _ => []
  | f + 1, n => if n = 0 then [] else n % B :: digsF B f (n / B)
def digs (B n : Nat) : List Nat := digsF B n n
theorem dval_append (B : Nat) (a b : List Nat) : dval B (a ++ b) = dval B a + B ^ a.length * dval B b := by
  induction a with
  | nil => simp [dval]
  | cons d a ih =>
    simp only [List.cons_append, dval, List.length_cons, ih, Nat.pow_succ]
    rw [Nat.mul_add, Nat.add_assoc]
    congr 2
    rw [← Nat.mul_assoc, Nat.mul_comm B]
theorem dval_snoc (B : Nat) (a : List Nat) (d : Nat) : dval B (a ++ [d]) = dval B a + B ^ a.length * d := by
  rw [dval_append]; simp [dval]
theorem dval_lt (B : Nat) (l : List Nat) (h : ∀ d ∈ l, d < B) : dval B l < B ^ l.length := by
  induction l with
  | nil => simp [dval]
  | cons d l ih =>
    have h1 := ih fun x hx => h x (by simp [hx])
    have h2 := h d (by simp)
    simp only [dval, List.length_cons, Nat.pow_succ]
    have h3 : dval B l + 1 ≤ B ^ l.length := h1
    calc d + B * dval B l < B + B * dval B l := by omega
      _ = B * (dval B l + 1) := by rw [Nat.mul_add]; omega
      _ ≤ B * B ^ l.length := Nat.mul_le_mul_left _ h3
      _ = _ := Nat.mul_comm ..
theorem dval_zero (B : Nat) (l : List Nat) (h : dval B l = 0) (hB : 0 < B) : ∀ d ∈ l, d = 0 := by
  induction l with
  | nil => intro d hd; cases hd
  | cons x l ih =>
    simp only [dval] at h
    have h1 : x = 0 := by omega
    have h2 : B * dval B l = 0 := by omega
    have h3 : dval B l = 0 := by
      rcases Nat.mul_eq_zero.1 h2 with h | h
      · omega
      · exact h
    intro d hd
    rcases List.mem_cons.1 hd with rfl | hd
    · exact h1
    · exact ih h3 d hd
theorem digsF_enough {B : Nat} (hB : 2 ≤ B) : ∀ f g n, n ≤ f → n ≤ g → digsF B f n = digsF B g n := by
  intro f
  induction f with
  | zero =>
    intro g n h _
    have : n = 0 := by omega
    subst this
    cases g <;> simp [digsF]
  | succ f ih =>
    intro g n hf hg
    by_cases hn : n = 0
    · subst hn; cases g <;> simp [digsF]
    · cases g with
      | zero => omega
      | succ g =>
        simp only [digsF, if_neg hn]
        have : n / B ≤ n / 2 := Nat.div_le_div_left hB (by omega)
        rw [ih g (n / B) (by omega) (by omega)]
theorem digs_zero (B : Nat) : digs B 0 = [] := rfl
theorem digs_pos {B : Nat} (hB : 2 ≤ B) {n : Nat} (hn : n ≠ 0) : digs B n = n % B :: digs B (n / B) := by
  obtain ⟨m, rfl⟩ : ∃ m, n = m + 1 := ⟨n - 1, by omega⟩
  unfold digs
  simp only [digsF, if_neg hn]
  have : (m + 1) / B ≤ (m + 1) / 2 := Nat.div_le_div_left hB (by omega)
  rw [digsF_enough hB m ((m + 1) / B) _ (by omega) (Nat.le_refl _)]
theorem digs_induct {B : Nat} (hB : 2 ≤ B) {P : Nat → Prop} (h0 : P 0) (h : ∀ n, n ≠ 0 → P (n / B) → P n) (n : Nat) : P n := by
  induction n using Nat.strongRecOn with
  | _ n ih =>
    by_cases hn : n = 0
    · subst hn; exact h0
    · exact h n hn (ih _ (Nat.lt_of_le_of_lt (Nat.div_le_div_left hB (by omega)) (by omega)))
theorem dval_digs {B : Nat} (hB : 2 ≤ B) (n : Nat) : dval B (digs B n) = n := by
  induction n using digs_induct hB with
  | h0 => rfl
  | h n hn ih => rw [digs_pos hB hn, dval, ih]; exact Nat.mod_add_div n B
theorem digs_lt {B : Nat} (hB : 2 ≤ B) (n : Nat) : ∀ d ∈ digs B n, d < B := by
  induction n using digs_induct hB with
  | h0 => intro d hd; cases hd
  | h n hn ih =>
    rw [digs_pos hB hn]
    intro d hd
    rcases List.mem_cons.1 hd with rfl | hd
    · exact Nat.mod_lt _ (by omega)
    · exact ih d hd
/-- Digits without a nought at the end are the number's own. -/
theorem digs_dval {B : Nat} (hB : 2 ≤ B) (l : List Nat) (h : ∀ d ∈ l, d < B) (hl : l.getLast? ≠ some 0) : digs B (dval B l) = l := by
  induction l with
  | nil => rfl
  | cons d l ih =>
    have h1 := ih (fun x hx => h x (by simp [hx])) (by
      cases l with
      | nil => simp
      | cons y l => simpa using hl)
    have h2 := h d (by simp)
    have hne : dval B (d :: l) ≠ 0 := by
      intro e
      have hz := dval_zero B _ e (by omega)
      apply hl
      cases hg : (d :: l).getLast? with
      | none => simp at hg
      | some x => rw [hz x (List.mem_of_getLast? hg)]
    rw [digs_pos hB hne]
    simp only [dval]
    rw [Nat.add_mul_mod_self_left, Nat.mod_eq_of_lt h2, Nat.add_mul_div_left _ _ (by omega), Nat.div_eq_of_lt h2, Nat.zero_add, h1]
/-- Noughts at the end make nothing. -/
theorem dval_zeros (B : Nat) (l : List Nat) (k : Nat) : dval B (l ++ List.replicate k 0) = dval B l := by
  rw [dval_append]
  have : dval B (List.replicate k 0) = 0 := by
    induction k with
    | zero => rfl
    | succ k ih => rw [List.replicate_succ, dval, ih]; simp
  rw [this]; simp
theorem digs_len {B : Nat} (hB : 2 ≤ B) (n k : Nat) : (digs B n).length ≤ k ↔ n < B ^ k := by
  constructor
  · intro h
    have := dval_lt B _ (digs_lt hB n)
    rw [dval_digs hB] at this
    exact Nat.lt_of_lt_of_le this (Nat.pow_le_pow_right (by omega) h)
  · induction n using digs_induct hB generalizing k with
    | h0 => intro _; simp [digs_zero]
    | h n hn ih =>
      intro h
      cases k with
      | zero => simp at h; omega
      | succ k =>
        rw [digs_pos hB hn, List.length_cons]
        have := ih k ((Nat.div_lt_iff_lt_mul (by omega)).2 (by rwa [Nat.pow_succ] at h))
        omega
theorem digs_getLast {B : Nat} (hB : 2 ≤ B) (n : Nat) : (digs B n).getLast? ≠ some 0 := by
  induction n using digs_induct hB with
  | h0 => simp [digs_zero]
  | h n hn ih =>
    rw [digs_pos hB hn]
    cases hd : digs B (n / B) with
    | nil =>
      have h0 : n / B = 0 := by
        have := dval_digs hB (n / B); rw [hd] at this; exact this.symm
      have hlt : n < B := by
        rcases Nat.lt_or_ge n B with h | h
        · exact h
        · have := Nat.div_pos h (show 0 < B by omega); omega
      simp [Nat.mod_eq_of_lt hlt, hn]
    | cons y l => rw [hd] at ih; simpa using ih
theorem digs_nil {B : Nat} (hB : 2 ≤ B) {n : Nat} : digs B n = [] ↔ n = 0 := by
  constructor
  · intro h; have := dval_digs hB n; rw [h] at this; exact this.symm
  · rintro rfl; rfl
/-- The digits of k from the i-th on: the quotient. -/
theorem dval_drop {B : Nat} (l : List Nat) (h : ∀ d ∈ l, d < B) (k : Nat) : dval B (l.drop k) = dval B l / B ^ k := by
  by_cases hk : k ≤ l.length
  · have e := dval_append B (l.take k) (l.drop k)
    rw [List.take_append_drop, List.length_take, Nat.min_eq_left hk] at e
    have hlt := dval_lt B (l.take k) fun d hd => h d (List.mem_of_mem_take hd)
    rw [List.length_take, Nat.min_eq_left hk] at hlt
    rw [e, Nat.add_mul_div_left _ _ (by omega), Nat.div_eq_of_lt hlt, Nat.zero_add]
  · rw [List.drop_of_length_le (by omega)]
    have hlt := dval_lt B l h
    rcases Nat.eq_zero_or_pos B with hB | hB
    · cases l with
      | nil => simp [dval]
      | cons d l => have := h d (by simp); omega
    · rw [Nat.div_eq_of_lt (Nat.lt_of_lt_of_le hlt (Nat.pow_le_pow_right hB (by omega)))]; rfl
/-- One digit: the quotient's rest. -/
theorem dval_get {B : Nat} (l : List Nat) (h : ∀ d ∈ l, d < B) (k : Nat) : l.getD k 0 = dval B l / B ^ k % B := by
  rw [← dval_drop l h]
  have e : l.getD k 0 = (l.drop k).getD 0 0 := by simp [List.getD]
  rw [e]
  cases hd : l.drop k with
  | nil => simp [dval]
  | cons d t =>
    have : d < B := h d (List.mem_of_mem_drop (by rw [hd]; simp))
    simp [dval, Nat.add_mul_mod_self_left, Nat.mod_eq_of_lt this]
theorem dval_set (B : Nat) (L : List Nat) (j d : Nat) (h : j < L.length) : dval B (L.set j d) + L.getD j 0 * B ^ j = dval B L + d * B ^ j := by
  induction L generalizing j with
  | nil => simp at h
  | cons x L ih =>
    cases j with
    | zero => simp [dval]; omega
    | succ j =>
      have := ih j (by simpa using h)
      simp only [List.set_cons_succ, dval, List.getD_cons_succ, Nat.pow_succ]
      have e1 : L.getD j 0 * (B ^ j * B) = B * (L.getD j 0 * B ^ j) := by rw [← Nat.mul_assoc, Nat.mul_comm]
      have e2 : d * (B ^ j * B) = B * (d * B ^ j) := by rw [← Nat.mul_assoc, Nat.mul_comm]
      rw [e1, e2, Nat.add_assoc, Nat.add_assoc, ← Nat.mul_add, ← Nat.mul_add, this]
theorem mem_set_lt {β : Nat} {L : List Nat} (h : ∀ d ∈ L, d < β) {j d : Nat} (hd : d < β) : ∀ x ∈ L.set j d, x < β := by
  intro x hx
  rcases List.mem_or_eq_of_mem_set hx with h' | rfl
  · exact h x h'
  · exact hd
theorem getD_set_ne {L : List Nat} {i j d : Nat} (h : i ≠ j) : (L.set i d).getD j 0 = L.getD j 0 := by
  simp only [List.getD]
  rw [List.getElem?_set_ne h]
theorem dval_take_succ (B : Nat) (L : List Nat) (k : Nat) (h : k < L.length) : dval B (L.take (k + 1)) = dval B (L.take k) + B ^ k * L[k] := by
  rw [List.take_succ_eq_append_getElem h, dval_snoc, List.length_take, Nat.min_eq_left (by omega)]
structure MulOut (β : Nat) (A B : List Nat) (i : Nat) (O : List Nat) : Prop where
  len : O.length = A.length + B.length
  lt : ∀ d ∈ O, d < β
  zero : ∀ j, i + B.length ≤ j → O.getD j 0 = 0
  val : dval β O = dval β (A.take i) * dval β B
structure MulIn (β : Nat) (A B : List Nat) (i x k c : Nat) (O : List Nat) : Prop where
  len : O.length = A.length + B.length
  lt : ∀ d ∈ O, d < β
  zero : ∀ j, i + B.length ≤ j → O.getD j 0 = 0
  carry : c < β
  upto : k ≤ B.length
  val : dval β O + c * β ^ (i + k) = dval β (A.take i) * dval β B + x * dval β (B.take k) * β ^ i
theorem MulOut.start (β : Nat) (hβ : 0 < β) (A B : List Nat) : MulOut β A B 0 (List.replicate (A.length + B.length) 0) := by
  refine ⟨by simp, fun d hd => by rw [List.eq_of_mem_replicate hd]; exact hβ, fun j _ => ?_, ?_⟩
  · simp only [List.getD]
    rw [List.getElem?_replicate]
    split <;> rfl
  · have := dval_zeros β [] (A.length + B.length)
    simp only [List.nil_append] at this
    rw [this]; simp [dval]
theorem sum_lt {β c x y o : Nat} (hc : c < β) (hx : x < β) (hy : y < β) (ho : o < β) : c + (x * y + o) < β * β := by
  obtain ⟨b, rfl⟩ : ∃ b, β = b + 1 := ⟨β - 1, by omega⟩
  have h1 : x * y ≤ b * b := Nat.mul_le_mul (by omega) (by omega)
  have h2 : (b + 1) * (b + 1) = b * b + 2 * b + 1 := by rw [Nat.add_mul, Nat.mul_add]; omega
  omega
theorem MulIn.step {β : Nat} {A B : List Nat} {i x k c : Nat} {O : List Nat} (h : MulIn β A B i x k c O) (hB : ∀ d ∈ B, d < β) (hx : x < β) (hk : k < B.length) (hi : i < A.length) :
    MulIn β A B i x (k + 1) ((c + (x * B[k] + O.getD (i + k) 0)) / β) (O.set (i + k) ((c + (x * B[k] + O.getD (i + k) 0)) % β)) := by
  have hβ : 0 < β := by omega
  have hj : i + k < O.length := by rw [h.len]; omega
  have ho : O.getD (i + k) 0 < β := by
    simp only [List.getD]; rw [List.getElem?_eq_getElem hj]; exact h.lt _ (List.getElem_mem hj)
  have hs := sum_lt h.carry hx (hB _ (List.getElem_mem hk)) ho
  refine ⟨by simp [h.len], mem_set_lt h.lt (Nat.mod_lt _ hβ), fun j hj' => ?_, (Nat.div_lt_iff_lt_mul hβ).2 hs, by omega, ?_⟩
  · rw [getD_set_ne (by omega)]; exact h.zero j hj'
  · have e := dval_set β O (i + k) ((c + (x * B[k] + O.getD (i + k) 0)) % β) hj
    have v := h.val
    rw [dval_take_succ β B k hk]
    have hp : β ^ (i + (k + 1)) = β * β ^ (i + k) := by rw [← Nat.add_assoc, Nat.pow_succ, Nat.mul_comm]
    rw [hp]
    have hdm := Nat.div_add_mod (c + (x * B[k] + O.getD (i + k) 0)) β
    generalize O.getD (i + k) 0 = o at *
    generalize B[k] = y at *
    generalize hq : (c + (x * y + o)) / β = q at *
    generalize hr : (c + (x * y + o)) % β = r at *
    generalize dval β (O.set (i + k) r) = D' at *
    generalize dval β O = D at *
    have hpk : x * (β ^ k * y) * β ^ i = x * y * β ^ (i + k) := by
      rw [Nat.pow_add, Nat.mul_assoc x, Nat.mul_assoc x, Nat.mul_comm (β ^ k) y, Nat.mul_assoc y, Nat.mul_comm (β ^ k)]
    rw [Nat.mul_add x, Nat.add_mul, hpk]
    generalize β ^ (i + k) = p at *
    generalize x * dval β (B.take k) * β ^ i = V at *
    generalize dval β (A.take i) * dval β B = U at *
    have h1 : q * (β * p) + r * p = (c + (x * y + o)) * p := by
      rw [← Nat.mul_assoc, ← Nat.add_mul, Nat.mul_comm q, hdm]
    have h2 : (c + (x * y + o)) * p = c * p + (x * y * p + o * p) := by rw [Nat.add_mul, Nat.add_mul]
    omega
def cu (k : IntKind) (L : List Nat) : List Value := L.map fun d : Nat => Value.int k (d : Int)
/-- A slice reads as these numbers. -/
structure RowAt (w : World) (k : IntKind) (ao : Option Addr) (cap : Nat) (L : List Nat) : Prop where
  le : L.length ≤ cap
  max : cap ≤ maxLen
  nil : ao = none → L = [] ∧ cap = 0
  cell : ∀ i (h : i < L.length), ∃ b, ao = some ⟨b, 0, none⟩ ∧ b < w.heap.size ∧ w.cell? ⟨b, i, none⟩ = some (.int k (L[i] : Nat))
theorem RowAt.below {B : Nat} {w w' : World} {k : IntKind} {ao : Option Addr} {cap : Nat} {L : List Nat} (h : RowAt w k ao cap L) (hb : Below B w w') (hB : w.heap.size ≤ B) : RowAt w' k ao cap L :=
  ⟨h.le, h.max, h.nil, fun i hi => by
    obtain ⟨b, e, hlt, hc⟩ := h.cell i hi
    exact ⟨b, e, Nat.lt_of_lt_of_le hlt hb.size, (hb.cell (p := ⟨b, i, none⟩) (by show b < B; omega)).trans hc⟩⟩
theorem own_row {w : World} {B e n cap : Nat} {k : IntKind} {ao : Option Addr} {L : List Nat} (h : w.ownsRow B e 1 (.slice ao n cap) n (cu k L)) : n = L.length ∧ RowAt w k ao cap L := by
  have hl : L.length = n := by have := h.1; simpa [cu] using this
  refine ⟨hl.symm, ?_⟩
  rcases h.2 with ⟨hv, hn⟩ | ⟨g, cap', cur, hv, hb, hg, hnc, hm, _, _⟩
  · cases hv
    have hL : L = [] := List.eq_nil_of_length_eq_zero (by omega)
    subst hL
    exact ⟨Nat.zero_le _, Nat.zero_le _, fun _ => ⟨rfl, rfl⟩, fun i hi => absurd hi (Nat.not_lt_zero _)⟩
  · cases hv
    refine ⟨by omega, hm, (fun h => by cases h), fun i hi => ⟨g, rfl, (Array.getElem?_eq_some_iff.1 hg).1, ?_⟩⟩
    have := h.cells (g := g) rfl i (.int k (L[i] : Nat)) (by simp [cu, hi])
    rwa [Addr.add_lit, Nat.zero_add] at this
/-- The noughts at the end cut off: the number's own digits. -/
theorem take_digs {B : Nat} (hB : 2 ≤ B) (L : List Nat) (h : ∀ d ∈ L, d < B) : L.take (digs B (dval B L)).length = digs B (dval B L) := by
  induction L with
  | nil => rfl
  | cons d L ih =>
    have h1 := ih fun x hx => h x (by simp [hx])
    have h2 := h d (by simp)
    by_cases hz : dval B (d :: L) = 0
    · rw [hz]; rfl
    · rw [digs_pos hB hz]
      simp only [dval]
      rw [Nat.add_mul_mod_self_left, Nat.mod_eq_of_lt h2, Nat.add_mul_div_left _ _ (by omega), Nat.div_eq_of_lt h2, Nat.zero_add, List.length_cons, List.take_succ_cons, h1]
theorem digs_le {B : Nat} (hB : 2 ≤ B) (L : List Nat) (h : ∀ d ∈ L, d < B) : (digs B (dval B L)).length ≤ L.length := (digs_len hB _ _).2 (dval_lt B L h)
/-- Where the loop that cuts noughts off stands at n: behind n all is nought. -/
def CutAt (L : List Nat) (n : Nat) : Prop := n ≤ L.length ∧ ∀ i, n ≤ i → L.getD i 0 = 0
theorem CutAt.stop {B : Nat} (hB : 2 ≤ B) {L : List Nat} (h : ∀ d ∈ L, d < B) {n : Nat} (hc : CutAt L n) (hn : n = 0 ∨ L.getD (n - 1) 0 ≠ 0) : n = (digs B (dval B L)).length := by
  have hv : dval B L = dval B (L.take n) := by
    have e : L = L.take n ++ List.replicate (L.length - n) 0 := by
      apply List.ext_getElem
      · simp; omega
      · intro i h1 h2
        by_cases hi : i < n
        · rw [List.getElem_append_left (by simp; omega), List.getElem_take]
        · rw [List.getElem_append_right (by simp; omega), List.getElem_replicate]
          have := hc.2 i (by omega)
          simpa [List.getD, h1] using this
    conv => lhs; rw [e]
    rw [dval_zeros]
  rw [hv, digs_dval hB _ (fun d hd => h d (List.mem_of_mem_take hd)), List.length_take, Nat.min_eq_left hc.1]
  rcases hn with rfl | hn
  · simp
  · by_cases h0 : n = 0
    · subst h0; simp
    · rw [List.getLast?_take, if_neg h0]
      have hlt : n - 1 < L.length := by have := hc.1; omega
      intro e
      apply hn
      simp [List.getD, hlt]
      rw [List.getElem?_eq_getElem hlt] at e
      simpa using e
theorem getD_lt {L : List Nat} {i : Nat} (h : i < L.length) : L.getD i 0 = L[i] := by simp [List.getD, h]
theorem cut_any (ao : Option Addr) (cap : Nat) (L : List Nat) (hL : ∀ d ∈ L, d < 4294967296) (w : World) (h : RowAt w .u32 ao cap L) :
    Calls Try.prog 60 #[.slice ao L.length cap] w fun e w' => e = .returned (.slice ao (digs 4294967296 (dval 4294967296 L)).length cap) ∧ w = w' := by
  have hm := h.max
  have hle := h.le
  unfold maxLen at hm
  cases ao with
  | none =>
    obtain ⟨rfl, rfl⟩ := h.nil rfl
    go_enter Try.func60, Try.ntmps60
    go_wp2
    go_loop [3] (fun n => n = .int .i64 0) (fun _ => 0)
    case atStart => rfl
    case round =>
      subst hrel
      go_wp2
      go_ret
      exact ⟨rfl, rfl⟩
  | some a =>
    have H := Lib.hid h.cell
    have HL := Lib.hid hL
    clear h hL
    go_enter Try.func60, Try.ntmps60
    go_wp2
    go_loop [3] (fun n => ∃ k, CutAt L k ∧ n = .int .i64 ((k : Nat) : Int)) (fun n => (intOf n).toNat)
    case atStart => exact ⟨L.length, ⟨Nat.le_refl _, fun i hi => by simp [List.getD, hi]⟩, rfl⟩
    case round =>
      obtain ⟨k, hc, rfl⟩ := hrel
      have hk := hc.1
      have HC := Lib.hid hc
      clear hc
      by_cases h0 : k = 0
      · subst h0
        have E := Lib.hid (HC.out.stop (B := 4294967296) (by omega) HL.out (.inl rfl))
        go_wp2
        go_ret
        exact ⟨by rw [← E.out]; rfl, rfl⟩
      · have hk1 : k - 1 < L.length := by omega
        obtain ⟨b, rfl, hb, hcell⟩ : ∃ b, a = ⟨b, 0, none⟩ ∧ b < w.heap.size ∧ w.cell? ⟨b, k - 1, none⟩ = some (.int .u32 (L[k - 1] : Nat)) := by
          obtain ⟨b, e, h1, h2⟩ := H.out (k - 1) hk1
          exact ⟨b, by cases e; rfl, h1, h2⟩
        by_cases hz : L[k - 1] = 0
        · have hC : Hid (CutAt L (k - 1)) := by
            refine ⟨by omega, fun i hi => ?_⟩
            by_cases hik : i = k - 1
            · subst hik; rw [getD_lt hk1]; exact hz
            · exact HC.out.2 i (by omega)
          rw [hz] at hcell
          clear hz
          go_wp2
          go_round
          case rel => exact ⟨k - 1, hC.out, by congr 1; omega⟩
          case measure => simp [intOf]; omega
        · have E := Lib.hid (HC.out.stop (B := 4294967296) (by omega) HL.out (.inr (by rw [getD_lt hk1]; exact hz)))
          have hz' : ((L[k - 1] : Int) == 0) = false := by simpa using hz
          generalize L[k - 1] = d at hcell hz'
          clear hz
          go_wp2
          all_goals (go_ret; exact ⟨by rw [← E.out]; rfl, rfl⟩)
theorem info91 : (Try.prog.info? 84).map (fun i => (i.zero, i.size, i.bytes)) = some (some (.int .u32 0), 1, 4) := by kernel_rfl
/-- A row of the call's own at block g, and of old memory nothing has turned. -/
structure Own (w0 : World) (e : TypeId) (k : IntKind) (g : Nat) (L : List Nat) (w : World) : Prop where
  own : w.ownsRow w0.heap.size e 1 (.slice (some ⟨g, 0, none⟩) L.length L.length) L.length (cu k L)
  below : Below w0.heap.size w0 w
theorem Own.cell {w0 w : World} {e : TypeId} {k : IntKind} {g : Nat} {L : List Nat} (h : Own w0 e k g L w) (j : Nat) (hj : j < L.length) : w.cell? ⟨g, j, none⟩ = some (.int k (L[j] : Nat)) := by
  rw [h.own.cellAt j (by omega)]
  simp [cu, hj]
theorem Own.frozen {w0 w : World} {e : TypeId} {k : IntKind} {g : Nat} {L : List Nat} (h : Own w0 e k g L w) (j : Nat) : w.frozen? ⟨g, j, none⟩ = false := h.own.frozenAt j
theorem Own.store {w0 w : World} {e : TypeId} {k : IntKind} {g : Nat} {L : List Nat} (h : Own w0 e k g L w) (j d : Nat) : Own w0 e k g (L.set j d) (w.setCell ⟨g, j, none⟩ (.int k (d : Nat))) := by
  have hb := (h.own.lt g rfl).1
  refine ⟨?_, h.below.setCell (by exact hb) _⟩
  have := (h.own.stored j (.int k (d : Nat))).1
  rw [List.length_set]
  have e : cu k (L.set j d) = (cu k L).set j (.int k (d : Nat)) := by unfold cu; rw [List.map_set]
  rw [e]; exact this
theorem cut_n (ao : Option Addr) (n cap : Nat) (L : List Nat) (hn : L.length = n) (hL : ∀ d ∈ L, d < 4294967296) (w : World) (h : RowAt w .u32 ao cap L) :
    Calls Try.prog 60 #[.slice ao n cap] w fun e w' => e = .returned (.slice ao (digs 4294967296 (dval 4294967296 L)).length cap) ∧ w = w' := by
  subst hn; exact cut_any ao cap L hL w h
theorem cu_zero (k : IntKind) (n : Nat) : (madeCells (Value.int k 0).cells (n * 1)).toList = cu k (List.replicate n 0) := by
  have : (Value.int k 0).cells = #[.int k 0] := rfl
  rw [this, toList_madeCells_one, Nat.mul_one]
  unfold cu
  rw [List.map_replicate]; rfl
def bytesR (s : ByteArray) : List Nat := s.data.toList.reverse.map UInt8.toNat
def bval (s : ByteArray) : Nat := dval 256 (bytesR s)
theorem bytesR_len (s : ByteArray) : (bytesR s).length = s.size := by simp [bytesR]
theorem bytesR_lt (s : ByteArray) : ∀ d ∈ bytesR s, d < 256 := by
  intro d hd
  simp only [bytesR, List.mem_map] at hd
  obtain ⟨u, _, rfl⟩ := hd
  exact u.toNat_lt
theorem bytesR_get (s : ByteArray) (i : Nat) (h : i < (bytesR s).length) (m : Nat) (hm : m = s.size - 1 - i) (hms : m < s.size) : (bytesR s)[i] = s[m].toNat := by
  subst hm
  simp only [bytesR, List.getElem_map, List.getElem_reverse]
  rfl
structure OpenAt (l : List Nat) (i : Nat) (L : List Nat) : Prop where
  len : L.length = (l.length + 3) / 4
  lt : ∀ d ∈ L, d < 4294967296
  low : ∀ j, i / 4 < j → L.getD j 0 = 0
  cur : L.getD (i / 4) 0 < 256 ^ (i % 4)
  val : dval 4294967296 L = dval 256 (l.take i)
theorem pow4_split (i : Nat) : 256 ^ (i % 4) * 4294967296 ^ (i / 4) = 256 ^ i := by
  have e : (4294967296 : Nat) = 256 ^ 4 := rfl
  rw [e, ← Nat.pow_mul, ← Nat.pow_add]
  congr 1; omega
theorem OpenAt.start (l : List Nat) : OpenAt l 0 (List.replicate ((l.length + 3) / 4) 0) := by
  have z : ∀ j, (List.replicate ((l.length + 3) / 4) 0).getD j 0 = 0 := by
    intro j
    simp only [List.getD]
    rw [List.getElem?_replicate]
    split <;> rfl
  refine ⟨by simp, fun d hd => by rw [List.eq_of_mem_replicate hd]; omega, fun j _ => z j, by rw [z]; simp, ?_⟩
  have := dval_zeros 4294967296 [] ((l.length + 3) / 4)
  simp only [List.nil_append] at this
  rw [this]; simp [dval]
theorem OpenAt.step {l : List Nat} {i : Nat} {L : List Nat} (h : OpenAt l i L) (hl : ∀ d ∈ l, d < 256) (hi : i < l.length) : OpenAt l (i + 1) (L.set (i / 4) (L.getD (i / 4) 0 + l[i] * 256 ^ (i % 4))) := by
  have hj : i / 4 < L.length := by rw [h.len]; omega
  have hb := hl _ (List.getElem_mem hi)
  have hlt : L.getD (i / 4) 0 + l[i] * 256 ^ (i % 4) < 256 ^ (i % 4 + 1) := by
    have := h.cur
    have h2 : l[i] * 256 ^ (i % 4) ≤ 255 * 256 ^ (i % 4) := Nat.mul_le_mul_right _ (by omega)
    rw [Nat.pow_succ]; omega
  have hcap : 256 ^ (i % 4 + 1) ≤ 4294967296 := by
    have e : (4294967296 : Nat) = 256 ^ 4 := rfl
    rw [e]; exact Nat.pow_le_pow_right (by omega) (by omega)
  refine ⟨by simp [h.len], mem_set_lt h.lt (by omega), fun j hj' => ?_, ?_, ?_⟩
  · rw [getD_set_ne (by omega)]; exact h.low j (by omega)
  · by_cases hc : (i + 1) / 4 = i / 4
    · rw [hc]
      have e : (i + 1) % 4 = i % 4 + 1 := by omega
      rw [e]
      simp only [List.getD] at hlt ⊢
      rw [List.getElem?_set_self hj]; exact hlt
    · rw [getD_set_ne (by omega), h.low _ (by omega)]
      exact Nat.pos_of_ne_zero (by have := Nat.pow_pos (n := (i + 1) % 4) (show 0 < 256 by omega); omega)
  · have e := dval_set 4294967296 L (i / 4) (L.getD (i / 4) 0 + l[i] * 256 ^ (i % 4)) hj
    rw [dval_take_succ 256 l i hi, ← h.val, ← pow4_split i]
    rw [Nat.add_mul] at e
    have e2 : l[i] * 256 ^ (i % 4) * 4294967296 ^ (i / 4) = 256 ^ (i % 4) * 4294967296 ^ (i / 4) * l[i] := by
      rw [Nat.mul_assoc, Nat.mul_comm]
    omega
theorem bits_or32 (x y : Nat) (hx : x < 4294967296) (hy : y < 4294967296) : bits .or .u32 (x : Int) (y : Int) = ((x ||| y : Nat) : Int) := by
  have h : x ||| y < 2 ^ 32 := Nat.or_lt_two_pow (by omega) (by omega)
  have key : bits .or .u32 (x : Int) (y : Int) = IntKind.u32.wrap ((BitVec.ofNat 32 x ||| BitVec.ofNat 32 y).toNat : Int) := by
    rw [← BitVec.ofInt_natCast, ← BitVec.ofInt_natCast]; rfl
  rw [key, IntKind.wrap_u32, BitVec.toNat_or, BitVec.toNat_ofNat, BitVec.toNat_ofNat, Nat.mod_eq_of_lt (a := x) (by omega), Nat.mod_eq_of_lt (a := y) (by omega)]
  omega
theorem open_or (d b r : Nat) (hd : d < 256 ^ r) (hb : b < 256) (hr : r < 4) : bits .or .u32 (d : Int) ((b : Int) % 4294967296 * 2 ^ (8 * r) % 4294967296) = ((d + b * 256 ^ r : Nat) : Int) := by
  have e8 : (2 : Nat) ^ (8 * r) = 256 ^ r := by rw [Nat.pow_mul]
  have h4 : 256 ^ (r + 1) ≤ 256 ^ 4 := Nat.pow_le_pow_right (by omega) (by omega)
  have h4' : 256 ^ r * 256 ≤ 4294967296 := by rw [← Nat.pow_succ]; exact h4
  have hbr : b * 256 ^ r ≤ 255 * 256 ^ r := Nat.mul_le_mul_right _ (by omega)
  have e1 : ((b : Int) % 4294967296 * 2 ^ (8 * r) % 4294967296) = ((b * 256 ^ r : Nat) : Int) := by
    have : (b : Int) % 4294967296 = b := by omega
    rw [this]
    have e2 : (b : Int) * 2 ^ (8 * r) = ((b * 256 ^ r : Nat) : Int) := by rw [← e8]; push_cast; rfl
    rw [e2]; omega
  rw [e1, bits_or32 d _ (by omega) (by omega)]
  congr 1
  rw [← e8] at hd ⊢
  have := Nat.two_pow_add_eq_or_of_lt hd b
  rw [Nat.or_comm, Nat.mul_comm b, ← this]
  omega
set_option maxHeartbeats 400000 in
theorem open_any (s : ByteArray) (hs : s.size ≤ 100000) (w : World) :
    Calls Try.prog 42 #[.string s] w (fun e w' => ∃ v L, e = .returned v ∧ w'.ownsRow w.heap.size 84 1 v L.length (cu .u32 L) ∧ dval 4294967296 L = bval s ∧ (∀ d ∈ L, d < 4294967296) ∧ L.length = (s.size + 3) / 4 ∧ Below w.heap.size w w') := by
  obtain ⟨i0, hi0, hz0, hz1, hz2⟩ := info_parts info91
  go_enter Try.func42, Try.ntmps42
  go_wp2_with (first | (at_make; refine wpList_make_full _ rfl _ _ 82 rfl w.heap.size 84 i0 (.int .u32 0) 1 Try.underlying82 hi0 hz0 hz1 .i64 .i64 _ _ ((s.size + 3) / 4) rfl rfl (by go_num) (by go_num) (by rw [hz2]; omega) (by unfold maxLen; omega) (Nat.le_refl _) ?_; intro w1 hown1 hgrow1))
  have hO : Own w 84 .u32 w.heap.size (List.replicate ((s.size + 3) / 4) 0) w1 := by
    refine ⟨?_, (Below.refl _ _).grown hgrow1 (Nat.le_refl _) (fun k h => by cases h)⟩
    rw [cu_zero] at hown1
    rw [List.length_replicate]; exact hown1
  have HO := Lib.hid hO
  clear hO hown1 hgrow1 hi0 hz0 hz1 hz2
  go_loopw [13] (fun vi wr => ∃ i L, i ≤ s.size ∧ vi = .int .i64 ((i : Nat) : Int) ∧ OpenAt (bytesR s) i L ∧ Own w 84 .u32 w.heap.size L wr) (fun vi _ => s.size - (intOf vi).toNat)
  case atStart => exact ⟨0, _, Nat.zero_le _, rfl, by have := OpenAt.start (bytesR s); rw [bytesR_len] at this; exact this, HO.out⟩
  case round =>
    obtain ⟨i, L, hi, rfl, hm, ho⟩ := hrel
    have HM := Lib.hid hm
    have HW := Lib.hid ho
    clear hm ho
    by_cases hlt : i < s.size
    · have hlen : L.length = (s.size + 3) / 4 := by have := HM.out.len; simpa [bytesR] using this
      have hj : i / 4 < L.length := by omega
      have hcell := HW.out.cell (i / 4) hj
      have hfz := HW.out.frozen (i / 4)
      have hcur := HM.out.cur
      rw [getD_lt hj] at hcur
      have HS := Lib.hid (HM.out.step (bytesR_lt s) (by rw [bytesR_len]; exact hlt))
      rw [getD_lt hj] at HS
      have HST := Lib.hid (fun d => HW.out.store (i / 4) d)
      generalize L[i / 4] = d at hcell hcur HS
      have HCU := Lib.hid hcur
      clear hcur
      obtain ⟨m, hmi⟩ : ∃ m, m = s.size - 1 - i := ⟨_, rfl⟩
      have hmlt : m < s.size := by omega
      have em : (s.size : Int) - 1 - i = m := by omega
      rw [bytesR_get s i _ m hmi hmlt] at HS
      have HMI := Lib.hid hmi
      clear hmi
      have hx0 : (0 : Int) ≤ (i : Int) / 4 := by omega
      have hx1 : (i : Int) / 4 < (((s.size + 3) / 4 : Nat) : Int) := by omega
      have hx2 : ((i : Int) / 4).toNat = i / 4 := by omega
      have HL := Lib.hid hlen
      have HJ := Lib.hid hj
      clear hlen hj
      go_wp2
      go_region
      go_wp2
      have hor := open_or d s[m].toNat (i % 4) HCU.out s[m].toNat_lt (by omega)
      go_roundw
      case rel =>
        refine ⟨i + 1, _, by omega, by go_num, HS.out, ?_⟩
        rw [hor]
        have := HST.out (d + s[m].toNat * 256 ^ (i % 4))
        exact ⟨this.own, this.below.drew⟩
      case measure => simp [intOf]; omega
    · have hie : i = s.size := by omega
      subst hie
      go_wp2
      go_ret
      have hv := HM.out.val
      rw [List.take_of_length_le (by rw [bytesR_len]; exact Nat.le_refl _)] at hv
      have hlen : L.length = (s.size + 3) / 4 := by rw [HM.out.len, bytesR_len]
      refine ⟨_, L, rfl, ?_, hv, HM.out.lt, hlen, HW.out.below⟩
      have := HW.out.own
      rw [hlen] at this ⊢
      exact this
def blen (n : Nat) : Nat := (digs 2 n).length
theorem blen_le (n k : Nat) : blen n ≤ k ↔ n < 2 ^ k := digs_len (by omega) n k
theorem bitLen_blen (x : Nat) (h : x < 4294967296) : Lib.bitLen x = blen x := by
  have key : ∀ k, Lib.bitLen x ≤ k ↔ x < 2 ^ k := by
    intro k
    by_cases h0 : x = 0
    · subst h0
      have e : Lib.bitLen 0 = 0 := by decide
      rw [e]; simp [Nat.two_pow_pos]
    · obtain ⟨h1, h2, h3⟩ := Lib.bitLenAux_bounds 64 x (by omega) h0
      constructor
      · intro hk
        exact Nat.lt_of_lt_of_le h3 (Nat.pow_le_pow_right (by omega) hk)
      · intro hk
        have : 2 ^ (Lib.bitLenAux 64 x - 1) < 2 ^ k := Nat.lt_of_le_of_lt h2 hk
        have := (Nat.pow_lt_pow_iff_right (by omega)).1 this
        show Lib.bitLenAux 64 x ≤ k
        omega
  have h1 := (key (blen x)).2 ((blen_le x _).1 (Nat.le_refl _))
  have h2 := (blen_le x (Lib.bitLen x)).2 ((key _).1 (Nat.le_refl _))
  omega
/-- By its highest limb. -/
theorem blen_top (n : Nat) (hn : n ≠ 0) : blen n = 32 * ((digs 4294967296 n).length - 1) + blen ((digs 4294967296 n).getD ((digs 4294967296 n).length - 1) 0) := by
  have hβ : 2 ≤ 4294967296 := by omega
  have hv := dval_digs hβ n
  have hlt := digs_lt hβ n
  have hlast := digs_getLast hβ n
  have hne : digs 4294967296 n ≠ [] := fun h => hn ((digs_nil hβ).1 h)
  generalize digs 4294967296 n = L at *
  obtain ⟨k, hk⟩ : ∃ k, L.length = k + 1 := ⟨L.length - 1, by have := List.length_pos_iff.2 hne; omega⟩
  have hk1 : k < L.length := by omega
  rw [hk, Nat.add_sub_cancel]
  have hg : L.getD k 0 = L[k] := by simp [List.getD, hk1]
  rw [hg]
  have hx : L[k] ≠ 0 := by
    intro e
    apply hlast
    rw [List.getLast?_eq_getElem?, hk, Nat.add_sub_cancel, List.getElem?_eq_getElem hk1, e]
  have hval : n = dval 4294967296 (L.take k) + 4294967296 ^ k * L[k] := by
    rw [← dval_take_succ _ _ _ hk1, List.take_of_length_le (by omega)]
    exact hv.symm
  have hlow := dval_lt 4294967296 (L.take k) fun d hd => hlt d (List.mem_of_mem_take hd)
  rw [List.length_take, Nat.min_eq_left (by omega)] at hlow
  have hp : (4294967296 : Nat) ^ k = 2 ^ (32 * k) := by rw [Nat.pow_mul]
  rw [hp] at hval hlow
  generalize L[k] = x at *
  generalize dval 4294967296 (L.take k) = low at *
  have up : ∀ j, n < 2 ^ (32 * k + j) ↔ x < 2 ^ j := by
    intro j
    rw [hval, Nat.pow_add]
    constructor
    · intro h
      exact Nat.lt_of_mul_lt_mul_left (Nat.lt_of_le_of_lt (Nat.le_add_left _ _) h)
    · intro h
      calc low + 2 ^ (32 * k) * x < 2 ^ (32 * k) + 2 ^ (32 * k) * x := by omega
        _ = 2 ^ (32 * k) * (x + 1) := by rw [Nat.mul_add]; omega
        _ ≤ _ := Nat.mul_le_mul_left _ h
  have h1 : blen n ≤ 32 * k + blen x := (blen_le _ _).2 ((up _).2 ((blen_le x _).1 (Nat.le_refl _)))
  have h2 : 32 * k < blen n := by
    rcases Nat.lt_or_ge (32 * k) (blen n) with h | h
    · exact h
    · have := (blen_le n _).1 h
      have h3 := (up 0).1 (by simpa using this)
      omega
  have h3 : blen x ≤ blen n - 32 * k := (blen_le _ _).2 ((up _).1 (by
    rw [show 32 * k + (blen n - 32 * k) = blen n by omega]; exact (blen_le n _).1 (Nat.le_refl _)))
  omega
/-- So many bytes has a number. -/
theorem bytes_bits (n : Nat) : (digs 256 n).length = (blen n + 7) / 8 := by
  have h1 : ∀ k, (digs 256 n).length ≤ k ↔ blen n ≤ 8 * k := by
    intro k
    rw [digs_len (by omega), blen_le, Nat.pow_mul]
  have a := (h1 (digs 256 n).length).1 (Nat.le_refl _)
  have b := (h1 ((blen n + 7) / 8)).2 (by omega)
  omega
theorem len_any (ao : Option Addr) (n cap : Nat) (L : List Nat) (hn : L.length = n) (hL : ∀ d ∈ L, d < 4294967296) (hl : n ≤ 1000000) (w : World) (h : RowAt w .u32 ao cap L) :
    Calls Try.prog 57 #[.slice ao n cap] w fun e w' => e = .returned (.int .i64 (blen (dval 4294967296 L) : Nat)) ∧ w = w' := by
  have hle := digs_le (B := 4294967296) (by omega) L hL
  have htk := take_digs (B := 4294967296) (by omega) L hL
  have HB := Lib.hid (blen_top (dval 4294967296 L))
  have HN := Lib.hid (@digs_nil 4294967296 (by omega) (dval 4294967296 L))
  have HC := Lib.hid (fun W => cut_n ao n cap L hn hL W)
  have hlt2 := digs_lt (B := 4294967296) (by omega) (dval 4294967296 L)
  by_cases h0 : dval 4294967296 L = 0
  · have e0 : (digs 4294967296 (dval 4294967296 L)).length = 0 := by rw [h0]; rfl
    have HC2 := Lib.hid (HC.out w h)
    rw [e0] at HC2
    have hb0 : Hid (blen (dval 4294967296 L) = 0) := by show blen _ = 0; rw [h0]; rfl
    clear hle htk HC hlt2 h hL e0 h0 hn
    go_enter Try.func57, Try.ntmps57
    go_wp2_with (go_at_call 60; refine HC2.out.mono ?_; rintro e w' ⟨rfl, rfl⟩)
    go_ret
    exact ⟨by rw [hb0.out]; rfl, rfl⟩
  · have hb := HB.out h0
    have hne : digs 4294967296 (dval 4294967296 L) ≠ [] := fun e => h0 (HN.out.1 e)
    have hpos := List.length_pos_iff.2 hne
    have HC2 := Lib.hid (HC.out w h)
    generalize hD : digs 4294967296 (dval 4294967296 L) = D at *
    obtain ⟨b, hao, hbl, hcell⟩ := h.cell (D.length - 1) (by omega)
    have hel : L[D.length - 1]'(by omega) = D.getD (D.length - 1) 0 := by
      rw [getD_lt (by omega : D.length - 1 < D.length)]
      have : D[D.length - 1]'(by omega) = (L.take D.length)[D.length - 1]'(by rw [List.length_take]; omega) := by congr 1; exact htk.symm
      rw [this, List.getElem_take]
    have hxl : D.getD (D.length - 1) 0 < 4294967296 := by
      rw [getD_lt (by omega : D.length - 1 < D.length)]; exact hlt2 _ (List.getElem_mem _)
    rw [hel] at hcell
    generalize hx : D.getD (D.length - 1) 0 = x at *
    have HE := Lib.hid hb
    obtain ⟨m, hm⟩ : ∃ m, D.length = m + 1 := ⟨D.length - 1, by omega⟩
    rw [hm] at HC2 hcell HE hpos hle
    simp only [Nat.add_sub_cancel] at hcell HE
    have hm6 : m ≤ 1000000 := by omega
    have hq0 : ((m : Int) + 1 == 0) = false := by simp; omega
    have hq1 : (((m + 1 : Nat) : Int) == 0) = false := by simp; omega
    have hq2 : (m : Int) < ((m + 1 : Nat) : Int) := by omega
    have hxb : blen x ≤ 32 := (blen_le x 32).2 hxl
    have hbx : Lib.bitLen x ≤ 32 := by rw [bitLen_blen x hxl]; exact hxb
    have HX := Lib.hid (bitLen_blen x hxl)
    clear hxb
    subst hao
    clear hb hne HB HN htk HC hlt2 h hel h0 hD hx hn hm hpos hle hl hL
    go_enter Try.func57, Try.ntmps57
    go_wp2_with (first | (go_at_call 60; refine HC2.out.mono ?_; rintro e w' ⟨rfl, rfl⟩) | (go_at_call 61; refine (Try.bits_Len32 _ _ (by omega) (by omega)).mono ?_; rintro e w' ⟨rfl, hw⟩; have hw2 := hw.symm; subst hw2))
    go_ret
    exact ⟨by rw [HE.out, ← HX.out]; congr 1, rfl⟩
/-- A number's bytes, the highest first. -/
def enc (n : Nat) : ByteArray := strOfNums ((digs 256 n).reverse.map fun d : Nat => (d : Int))
theorem info5 : (Try.prog.info? 5).map (fun i => (i.zero, i.size, i.bytes)) = some (some (.int .u8 0), 1, 1) := by kernel_rfl
/-- The bytes laid so far, from the end on. -/
def laid (D : List Nat) (i : Nat) : List Nat := List.replicate (D.length - i) 0 ++ (D.take i).reverse
theorem laid_len (D : List Nat) (i : Nat) (h : i ≤ D.length) : (laid D i).length = D.length := by simp [laid]; omega
theorem laid_zero (D : List Nat) : laid D 0 = List.replicate D.length 0 := by simp [laid]
theorem laid_all (D : List Nat) : laid D D.length = D.reverse := by simp [laid]
theorem laid_step (D : List Nat) (i : Nat) (h : i < D.length) : (laid D i).set (D.length - 1 - i) D[i] = laid D (i + 1) := by
  unfold laid
  have e : D.length - i = (D.length - (i + 1)) + 1 := by omega
  rw [e, List.replicate_succ', List.take_succ_eq_append_getElem h, List.reverse_append, List.append_assoc]
  have e2 : D.length - 1 - i = (List.replicate (D.length - (i + 1)) 0).length := by rw [List.length_replicate]; omega
  rw [e2, List.set_append_right _ _ (Nat.le_refl _), Nat.sub_self]
  rfl
/-- A byte out of a limb. -/
theorem byte_of (L : List Nat) (hL : ∀ d ∈ L, d < 4294967296) (i : Nat) (hi : i / 4 < L.length) (hd : i < (digs 256 (dval 4294967296 L)).length) :
    L[i / 4] / 2 ^ (8 * (i % 4)) % 256 = (digs 256 (dval 4294967296 L))[i] := by
  have h1 := dval_get L hL (i / 4)
  have h2 := dval_get (digs 256 (dval 4294967296 L)) (digs_lt (by omega) _) i
  rw [getD_lt hi] at h1
  rw [getD_lt hd, dval_digs (by omega)] at h2
  rw [h1, h2]
  generalize dval 4294967296 L = N
  have e1 : (2 : Nat) ^ (8 * (i % 4)) = 256 ^ (i % 4) := by rw [Nat.pow_mul]
  have e2 : (256 : Nat) ^ i = 4294967296 ^ (i / 4) * 256 ^ (i % 4) := by rw [Nat.mul_comm, pow4_split]
  have e3 : (4294967296 : Nat) = 256 ^ (i % 4) * (256 * 256 ^ (3 - i % 4)) := by
    rw [← Nat.pow_succ', ← Nat.pow_add, show i % 4 + (3 - i % 4 + 1) = 4 by omega]
  rw [e1, e2, ← Nat.div_div_eq_div_mul]
  generalize N / 4294967296 ^ (i / 4) = M
  rw [e3, Nat.mod_mul_right_div_self, Nat.mod_mul_right_mod]
set_option maxRecDepth 20000 in
set_option maxHeartbeats 1000000 in
theorem shut_any (ao : Option Addr) (n cap : Nat) (L : List Nat) (hn : L.length = n) (hL : ∀ d ∈ L, d < 4294967296) (hl : n ≤ 1000000) (w : World) (h : RowAt w .u32 ao cap L) (hshort : (digs 256 (dval 4294967296 L)).length ≤ 16384) :
    Calls Try.prog 46 #[.slice ao n cap] w fun e w' => e = .returned (.tuple #[.string (enc (dval 4294967296 L)), .int .i64 0]) ∧ Below w.heap.size w w' := by
  obtain ⟨i0, hi0, hz0, hz1, hz2⟩ := info_parts info5
  have HL := Lib.hid (len_any ao n cap L hn hL hl w h)
  have hb := bytes_bits (dval 4294967296 L)
  have hk4 : (digs 256 (dval 4294967296 L)).length ≤ 4 * L.length := by
    rw [digs_len (by omega)]
    have := dval_lt 4294967296 L hL
    rwa [Nat.pow_mul]
  have BO := Lib.hid (byte_of L hL)
  have RL := Lib.hid h
  have ENC : Hid (enc (dval 4294967296 L) = strOfNums ((digs 256 (dval 4294967296 L)).reverse.map fun d : Nat => (d : Int))) := rfl
  generalize digs 256 (dval 4294967296 L) = D at *
  have hq : ((blen (dval 4294967296 L) : Int) + 7) / 8 = ((D.length : Nat) : Int) := by omega
  have hbl : blen (dval 4294967296 L) ≤ 200000 := by omega
  generalize blen (dval 4294967296 L) = bl at *
  have HK4 := Lib.hid hk4
  have HN := Lib.hid hn
  have hs2 : ((D.length : Nat) : Int) ≤ 16384 := by omega
  have HSH := Lib.hid hshort
  clear hb h hL hk4 hn hshort
  go_enter Try.func46, Try.ntmps46
  go_wp2_with (first | (go_at_call 57; refine HL.out.mono ?_; rintro e w' ⟨rfl, rfl⟩) | (at_make; refine wpList_make_full _ rfl _ _ 101 rfl w.heap.size 5 i0 (.int .u8 0) 1 Try.underlying101 hi0 hz0 hz1 .i64 .i64 _ _ D.length rfl rfl (by go_num) (by go_num) (by rw [hz2]; omega) (by unfold maxLen; omega) (Nat.le_refl _) ?_; intro w1 hown1 hgrow1))
  have hO : Own w 5 .u8 w.heap.size (laid D 0) w1 := by
    refine ⟨?_, (Below.refl _ _).grown hgrow1 (Nat.le_refl _) (fun k h => by cases h)⟩
    rw [cu_zero] at hown1
    rw [laid_len _ _ (Nat.zero_le _), laid_zero]; exact hown1
  have HO := Lib.hid hO
  clear hO hown1 hgrow1 hi0 hz0 hz1 hz2
  go_loopw [16] (fun vi wr => ∃ i, i ≤ D.length ∧ vi = .int .i64 ((i : Nat) : Int) ∧ Own w 5 .u8 w.heap.size (laid D i) wr) (fun vi _ => D.length - (intOf vi).toNat)
  case atStart => exact ⟨0, Nat.zero_le _, rfl, HO.out⟩
  case round =>
    obtain ⟨i, hi, rfl, ho⟩ := hrel
    have HW := Lib.hid ho
    clear ho
    by_cases hlt : i < D.length
    · have hj : i / 4 < L.length := by have := HK4.out; omega
      obtain ⟨ba, rfl, hba, hca⟩ := ((RL.out.below HW.out.below (Nat.le_refl _)).cell (i / 4) hj)
      have HB := Lib.hid (BO.out i hj hlt)
      generalize L[i / 4] = x at hca HB
      have hm1 : D.length - 1 - i < (laid D i).length := by rw [laid_len _ _ hi]; omega
      have hfz := HW.out.frozen (D.length - 1 - i)
      have hcell := HW.out.cell (D.length - 1 - i) hm1
      generalize (laid D i)[D.length - 1 - i] = o at hcell
      have hx0 : (0 : Int) ≤ (i : Int) / 4 := by omega
      have hx1 : (i : Int) / 4 < (n : Int) := by have := HN.out; omega
      have hx2 : ((i : Int) / 4).toNat = i / 4 := by omega
      go_wp2
      go_roundw
      case rel =>
        refine ⟨i + 1, by omega, by go_num, ?_⟩
        rw [← laid_step D i hlt, ← HB.out]
        exact HW.out.store (D.length - 1 - i) (x / 2 ^ (8 * (i % 4)) % 256)
      case measure => simp [intOf]; omega
    · have hie : i = D.length := by omega
      subst hie
      have HCV : Hid ((convert 101 22 (.slice (some ⟨w.heap.size, 0, none⟩) D.length D.length)).run Try.prog wr = .ok (.string (enc (dval 4294967296 L))) wr) := by
        show _ = _
        rw [ENC.out]
        refine run_convert_bytes_arg wr 101 5 Try.underlying101 Try.underlying5 w.heap.size 0 D.length D.length _ (by simp) ?_ 22 Try.underlying22
        intro j hj
        have h1 : j < (laid D D.length).length := by rw [laid_len _ _ (Nat.le_refl _)]; exact hj
        have hc := HW.out.cell j h1
        rw [Nat.zero_add, hc]
        simp [laid_all, List.getD, hj]
      go_wp2_with (rw [HCV.out])
      go_ret2
      exact ⟨rfl, HW.out.below⟩
def Ok (s : ByteArray) : Prop := s.size ≤ 16384 ∧ ∀ h : 0 < s.size, s[0] ≠ 0
instance (s : ByteArray) : Decidable (Ok s) := by unfold Ok; infer_instance
/-- A slice reads as these values. -/
structure VRow (w : World) (ao : Option Addr) (cap : Nat) (V : List Value) : Prop where
  le : V.length ≤ cap
  max : cap ≤ maxLen
  cell : ∀ i (h : i < V.length), ∃ b, ao = some ⟨b, 0, none⟩ ∧ b < w.heap.size ∧ w.cell? ⟨b, i, none⟩ = some V[i]
theorem toList_nil (s : ByteArray) : s.toList = [] ↔ s.size = 0 := by
  rw [ByteArray.toList_eq, ← List.length_eq_zero_iff, Array.length_toList]
  rfl
theorem isEmpty_size (s : ByteArray) : s.toList.isEmpty = decide (s.size = 0) := by
  have := toList_nil s
  by_cases h : s.size = 0
  · rw [this.2 h]; simp [h]
  · have h2 : s.toList ≠ [] := fun e => h (this.1 e)
    cases hl : s.toList with
    | nil => exact absurd hl h2
    | cons _ _ => simp [h]
theorem may_any (ao : Option Addr) (cap : Nat) (S : List ByteArray) (w : World) (hS : ∀ s ∈ S, s.size ≤ maxLen) (h : VRow w ao cap (S.map .string)) :
    Calls Try.prog 41 #[.slice ao S.length cap] w fun e w' => e = .returned (.bool (decide (∀ s ∈ S, Ok s))) ∧ w = w' := by
  have hm := h.max
  have hle := h.le
  rw [List.length_map] at hle
  unfold maxLen at hm hS
  have HC := Lib.hid h.cell
  have HS := Lib.hid hS
  clear h hS
  go_enter Try.func41, Try.ntmps41
  go_wp2
  go_loop [7] (fun v => ∃ i, i ≤ S.length ∧ v = .int .i64 ((i : Nat) : Int) ∧ ∀ j (hj : j < S.length), j < i → Ok S[j]) (fun v => S.length - (intOf v).toNat)
  case atStart => exact ⟨0, Nat.zero_le _, rfl, fun j _ h => absurd h (Nat.not_lt_zero _)⟩
  case round =>
    obtain ⟨i, hi, rfl, hok⟩ := hrel
    have HK := Lib.hid hok
    clear hok
    by_cases hlt : i < S.length
    · obtain ⟨b, rfl, hb, hcell⟩ := HC.out i (by rw [List.length_map]; exact hlt)
      rw [List.getElem_map] at hcell
      have hsz := HS.out _ (List.getElem_mem hlt)
      have HB := Lib.hid (fun (h : ¬ Ok S[i]) => (by simp only [decide_eq_false_iff_not]; exact fun hh => h (hh _ (List.getElem_mem hlt)) : decide (∀ s ∈ S, Ok s) = false))
      have HG := Lib.hid (fun (h : Ok S[i]) j (hj : j < S.length) (h2 : j < i + 1) => (by
        by_cases e : j = i
        · subst e; exact h
        · exact HK.out j hj (by omega) : Ok S[j]))
      generalize S[i] = s at hcell hsz HB HG
      have hE := isEmpty_size s
      have hN := toList_nil s
      by_cases h1 : s.size ≤ 16384
      · by_cases h2 : s.size = 0
        · have hr : Ok s := ⟨h1, fun h => by omega⟩
          have HG2 := Lib.hid (HG.out hr)
          have h3 := hN.2 h2
          have h5 : s.toList.isEmpty = true := by rw [hE]; simp [h2]
          clear hE hN hr
          go_wp2
          all_goals (go_round; (case rel => exact ⟨i + 1, by omega, by go_num, HG2.out⟩); (case measure => simp [intOf]; omega))
        · have h3 : ¬ s.toList = [] := fun e => h2 (hN.1 e)
          have h4 : 0 < s.size := by omega
          have h5 : s.toList.isEmpty = false := by rw [hE]; simp [h2]
          by_cases hz : s[0] = 0
          · have hr : ¬ Ok s := fun h => h.2 h4 hz
            have HB2 := Lib.hid (HB.out hr)
            have hz2 : s[0].toNat = 0 := by rw [hz]; rfl
            clear hE hN hr hz
            go_wp2
            go_ret
            exact ⟨by rw [HB2.out]; rfl, rfl⟩
          · have hr : Ok s := ⟨h1, fun _ => hz⟩
            have HG2 := Lib.hid (HG.out hr)
            have hz2 : s[0].toNat ≠ 0 := fun e => hz (UInt8.toNat_inj.1 e)
            have hz3 : ((s[0].toNat : Int) == 0) = false := by simpa using hz2
            clear hE hN hr hz
            go_wp2
            all_goals (go_round; (case rel => exact ⟨i + 1, by omega, by go_num, HG2.out⟩); (case measure => simp [intOf]; omega))
      · have hr : ¬ Ok s := fun h => h1 h.1
        have HB2 := Lib.hid (HB.out hr)
        clear hE hN hr
        go_wp2
        go_ret
        exact ⟨by rw [HB2.out]; rfl, rfl⟩
    · have hie : i = S.length := by omega
      subst hie
      have hT : decide (∀ s ∈ S, Ok s) = true := by
        rw [decide_eq_true_eq]
        intro s hs
        obtain ⟨j, hj, rfl⟩ := List.getElem_of_mem hs
        exact HK.out j hj hj
      have HT := Lib.hid hT
      clear hT
      go_wp2
      go_ret
      exact ⟨by rw [HT.out]; rfl, rfl⟩
theorem own_slice {w : World} {B e n : Nat} {k : IntKind} {v : Value} {L : List Nat} (h : w.ownsRow B e 1 v n (cu k L)) : ∃ ao cap, v = .slice ao L.length cap ∧ RowAt w k ao cap L := by
  have hl : L.length = n := by have := h.1; simpa [cu] using this
  have h0 := h
  rcases h.2 with ⟨hv, hn⟩ | ⟨g, cap', cur, hv, hb, hg, hnc, hm, _, _⟩
  · subst hv
    have := own_row (ao := none) (n := 0) (cap := 0) (by rw [hn] at h0; exact h0)
    exact ⟨none, 0, by rw [this.1], this.2⟩
  · subst hv
    have := own_row h0
    exact ⟨_, _, by rw [← this.1], this.2⟩
theorem two_below (w : World) (c) : Below w.heap.size w (w.alloc c) := (Below.refl _ _).alloc (Nat.le_refl _) _
theorem ok_digs (s : ByteArray) (h : Ok s) : digs 256 (bval s) = bytesR s := by
  refine digs_dval (by omega) _ (bytesR_lt s) ?_
  unfold bytesR
  rw [List.getLast?_map, List.getLast?_reverse]
  intro e
  cases hl : s.data.toList with
  | nil => rw [hl] at e; cases e
  | cons x l =>
    rw [hl] at e
    simp at e
    have hp : 0 < s.size := by
      have : s.data.toList.length = s.size := by rw [Array.length_toList]; rfl
      rw [hl] at this
      simp at this
      omega
    refine h.2 hp ?_
    have hx : s[0] = x := by
      show s.data[0] = x
      rw [← Array.getElem_toList]
      simp [hl]
    rw [hx]
    exact UInt8.toNat_inj.1 e
theorem one_row (a : ByteArray) (w : World) : VRow (w.alloc (.cells #[.string a] 22)) (some ⟨w.heap.size, 0, none⟩) 1 ([a].map .string) := by
  refine ⟨Nat.le_refl _, by unfold maxLen; omega, fun i hi => ⟨w.heap.size, rfl, by simp, ?_⟩⟩
  rw [World.cell?_alloc_at _ _ _ _ rfl]
  match i, hi with
  | 0, _ => rfl
theorem Check_any (a : ByteArray) (w : World) (ha : a.size ≤ maxLen) :
    Calls Try.prog 38 #[.string a] w fun e w' => e = .returned (.int .i64 (if Ok a then 0 else 2)) ∧ Below w.heap.size w w' := by
  have HM := Lib.hid (may_any (some ⟨w.heap.size, 0, none⟩) 1 [a] _ (by simpa using ha) (one_row a w))
  have HT := Lib.hid (two_below w (.cells #[.string a] 22))
  have e1 : [a].length = 1 := rfl
  rw [e1] at HM
  by_cases hok : Ok a
  · have ed : decide (∀ s ∈ [a], Ok s) = true := by rw [decide_eq_true_eq]; simpa using hok
    rw [ed] at HM
    rw [if_pos hok]
    clear hok ed ha
    go_enter Try.func38, Try.ntmps38
    go_wp2_with (go_at_call 41; refine HM.out.mono ?_; rintro e w1 ⟨rfl, hw1⟩; have B1 := HT.out; rw [hw1] at B1)
    go_ret
    exact ⟨rfl, B1⟩
  · have ed : decide (∀ s ∈ [a], Ok s) = false := by rw [decide_eq_false_iff_not]; simpa using hok
    rw [ed] at HM
    rw [if_neg hok]
    clear hok ed ha
    go_enter Try.func38, Try.ntmps38
    go_wp2_with (go_at_call 41; refine HM.out.mono ?_; rintro e w1 ⟨rfl, hw1⟩; have B1 := HT.out; rw [hw1] at B1)
    go_ret
    exact ⟨rfl, B1⟩
theorem limb_row (x y : Nat) (w : World) : RowAt (w.alloc (.cells #[.int .u32 (x : Int), .int .u32 (y : Int)] 84)) .u32 (some ⟨w.heap.size, 0, none⟩) 2 [x, y] := by
  refine ⟨Nat.le_refl _, by unfold maxLen; omega, (fun h => by cases h), fun i hi => ⟨w.heap.size, rfl, by simp, ?_⟩⟩
  rw [World.cell?_alloc_at _ _ _ _ rfl]
  match i, hi with
  | 0, _ => rfl
  | 1, _ => rfl
set_option maxRecDepth 20000 in
theorem Of_any (n : Nat) (hn : n < 18446744073709551616) (w : World) :
    Calls Try.prog 27 #[.int .u64 (n : Int)] w fun e w' => e = .returned (.string (enc n)) ∧ Below w.heap.size w w' := by
  have hx : n % 4294967296 < 4294967296 := Nat.mod_lt _ (by omega)
  have hy : n / 4294967296 < 4294967296 := by omega
  have hv : dval 4294967296 [n % 4294967296, n / 4294967296] = n := by
    simp only [dval, Nat.mul_zero, Nat.add_zero]
    exact Nat.mod_add_div n 4294967296
  have hl : (digs 256 n).length ≤ 16384 := Nat.le_trans ((digs_len (by omega) n 8).2 (by omega)) (by omega)
  have HS := Lib.hid (shut_any (some ⟨w.heap.size, 0, none⟩) 2 2 [n % 4294967296, n / 4294967296] rfl (by intro d hd; simp at hd; rcases hd with rfl | rfl <;> assumption) (by omega) _ (limb_row _ _ w) (by rw [hv]; exact hl))
  rw [hv] at HS
  have HT := Lib.hid (two_below w (.cells #[.int .u32 ((n % 4294967296 : Nat) : Int), .int .u32 ((n / 4294967296 : Nat) : Int)] 84))
  clear hv hl
  go_enter Try.func27, Try.ntmps27
  go_wp2_with (go_at_call 46; refine HS.out.mono ?_; rintro e w1 ⟨rfl, B1⟩)
  go_ret
  exact ⟨rfl, HT.out.on B1⟩
theorem bits_or64 (x y : Nat) (hx : x < 18446744073709551616) (hy : y < 18446744073709551616) : bits .or .u64 (x : Int) (y : Int) = ((x ||| y : Nat) : Int) := by
  have h : x ||| y < 2 ^ 64 := Nat.or_lt_two_pow (by omega) (by omega)
  have key : bits .or .u64 (x : Int) (y : Int) = IntKind.u64.wrap ((BitVec.ofNat 64 x ||| BitVec.ofNat 64 y).toNat : Int) := by
    rw [← BitVec.ofInt_natCast, ← BitVec.ofInt_natCast]; rfl
  rw [key, IntKind.wrap_u64, BitVec.toNat_or, BitVec.toNat_ofNat, BitVec.toNat_ofNat, Nat.mod_eq_of_lt (a := x) (by omega), Nat.mod_eq_of_lt (a := y) (by omega)]
  omega
theorem at_any (ao : Option Addr) (n cap : Nat) (L : List Nat) (hn : L.length = n) (i : Nat) (w : World) (h : RowAt w .u32 ao cap L) :
    Calls Try.prog 43 #[.slice ao n cap, .int .i64 (i : Int)] w fun e w' => e = .returned (.int .u32 (L.getD i 0 : Nat)) ∧ w = w' := by
  have hm := h.max
  have hle := h.le
  unfold maxLen at hm
  by_cases hlt : i < L.length
  · obtain ⟨b, rfl, hb, hc⟩ := h.cell i hlt
    rw [getD_lt hlt]
    generalize L[i] = x at *
    clear h
    go_enter Try.func43, Try.ntmps43
    go_wp2
    go_ret
    exact ⟨rfl, rfl⟩
  · have e : L.getD i 0 = 0 := by simp [List.getD, Nat.le_of_not_lt hlt]
    rw [e]
    clear h
    go_enter Try.func43, Try.ntmps43
    go_wp2
    go_ret
    exact ⟨rfl, rfl⟩
structure Ap (w0 : World) (e : TypeId) (k : IntKind) (v : Value) (L : List Nat) (w : World) : Prop where
  own : w.ownsRow w0.heap.size e 1 v L.length (cu k L)
  below : Below w0.heap.size w0 w
theorem or_low (c x s : Nat) (hc : c < 2 ^ s) : c ||| x * 2 ^ s = c + x * 2 ^ s := by
  have := Nat.shiftLeft_add_eq_or_of_lt (i := s) (b := c) hc x
  rw [Nat.shiftLeft_eq, Nat.or_comm] at this
  omega
theorem right_or (x y : Nat) (hx : x < 4294967296) (hy : y < 4294967296) : bits .or .u64 (x : Int) ((y : Int) * 4294967296) = ((x + y * 4294967296 : Nat) : Int) := by
  have e : ((y : Int) * 4294967296) = ((y * 4294967296 : Nat) : Int) := by omega
  have := or_low x y 32 hx
  rw [e, bits_or64 _ _ (by omega) (by omega)]
  congr 1
theorem at_z (ao : Option Addr) (n cap : Nat) (L : List Nat) (hn : L.length = n) (i : Nat) (z : Int) (hz : z = (i : Int)) (w : World) (h : RowAt w .u32 ao cap L) :
    Calls Try.prog 43 #[.slice ao n cap, .int .i64 z] w fun e w' => e = .returned (.int .u32 (L.getD i 0 : Nat)) ∧ w = w' := by
  subst hz; exact at_any ao n cap L hn i w h
theorem bval_lt (s : ByteArray) : bval s < 256 ^ s.size := by
  have := dval_lt 256 (bytesR s) (bytesR_lt s)
  rwa [bytesR_len] at this
theorem may_one (a : ByteArray) (w : World) (ha : a.size ≤ maxLen) (t : Bool) (ht : t = decide (Ok a)) :
    Calls Try.prog 41 #[.slice (some ⟨w.heap.size, 0, none⟩) 1 1] (w.alloc (.cells #[.string a] 22)) fun e w' => e = .returned (.bool t) ∧ Below w.heap.size w w' := by
  refine (may_any (some ⟨w.heap.size, 0, none⟩) 1 [a] _ (by simpa using ha) (one_row a w)).mono ?_
  rintro e w' ⟨rfl, rfl⟩
  refine ⟨?_, two_below w _⟩
  rw [ht]
  congr 2
  simp
/-- Opening: the limbs, readable. -/
theorem open_row (s : ByteArray) (hs : s.size ≤ 16384) (w : World) :
    Calls Try.prog 42 #[.string s] w fun e w' => ∃ ao cap L, e = .returned (.slice ao L.length cap) ∧ Hid (RowAt w' .u32 ao cap L) ∧ Hid (dval 4294967296 L = bval s) ∧ Hid (∀ d ∈ L, d < 4294967296) ∧ L.length ≤ 4096 ∧ Below w.heap.size w w' := by
  refine (open_any s (by omega) w).mono ?_
  rintro e w' ⟨v, L, rfl, o, h1, h2, h3, h4⟩
  obtain ⟨ao, cap, rfl, r⟩ := own_slice o
  exact ⟨ao, cap, L, rfl, r, h1, h2, by omega, h4⟩
theorem own_below {w w' : World} {B e n : Nat} {v : Value} {xs : List Value} (h : w.ownsRow B e 1 v n xs) (hb : Below w.heap.size w w') : w'.ownsRow B e 1 v n xs := by
  refine ⟨h.1, ?_⟩
  rcases h.2 with h2 | ⟨g, cap, cur, hv, hB, hg, h1⟩
  · exact .inl h2
  · refine .inr ⟨g, cap, cur, hv, hB, ?_, h1⟩
    rw [hb.block g (Array.getElem?_eq_some_iff.1 hg).1]; exact hg
theorem Ap.on {w0 w w' : World} {e : TypeId} {k : IntKind} {v : Value} {L : List Nat} (h : Ap w0 e k v L w) (hb : Below w.heap.size w w') : Ap w0 e k v L w' := ⟨own_below h.own hb, h.below.on hb⟩
theorem enc_data (n : Nat) : (enc n).data.toList = (digs 256 n).reverse.map (fun d => UInt8.ofNat d) := by
  unfold enc strOfNums
  simp [List.map_map]
theorem enc_size (n : Nat) : (enc n).size = (digs 256 n).length := by
  show (enc n).data.size = _
  rw [← Array.length_toList, enc_data]; simp
theorem bytesR_enc (n : Nat) : bytesR (enc n) = digs 256 n := by
  unfold bytesR
  rw [enc_data, ← List.map_reverse, List.reverse_reverse, List.map_map]
  have : ∀ l : List Nat, (∀ d ∈ l, d < 256) → l.map (UInt8.toNat ∘ fun d => UInt8.ofNat d) = l := by
    intro l
    induction l with
    | nil => intro _; rfl
    | cons d l ih =>
      intro h
      rw [List.map_cons, ih fun x hx => h x (by simp [hx])]
      have := h d (by simp)
      simp [UInt8.toNat_ofNat', Nat.mod_eq_of_lt this]
  exact this _ (digs_lt (by omega) n)
theorem bval_enc (n : Nat) : bval (enc n) = n := by
  unfold bval
  rw [bytesR_enc, dval_digs (by omega)]
theorem bytes_ext {s t : ByteArray} (h : bytesR s = bytesR t) : s = t := by
  have h1 : s.data.toList.reverse = t.data.toList.reverse := by
    unfold bytesR at h
    exact (List.map_inj_right (fun a b e => UInt8.toNat_inj.1 e)).1 h
  have h2 := List.reverse_inj.1 h1
  cases s with | mk d => cases t with | mk e =>
  congr 1
  exact Array.toList_inj.1 h2
theorem enc_bval (s : ByteArray) (h : Ok s) : enc (bval s) = s := bytes_ext (by rw [bytesR_enc, ok_digs s h])
theorem ok_enc (n : Nat) (h : (digs 256 n).length ≤ 16384) : Ok (enc n) := by
  refine ⟨by rw [enc_size]; exact h, fun hp e => ?_⟩
  have hl := digs_getLast (B := 256) (by omega) n
  apply hl
  have h1 : bytesR (enc n) = digs 256 n := bytesR_enc n
  rw [← h1]
  unfold bytesR
  rw [List.getLast?_map, List.getLast?_reverse]
  have hx : (enc n)[0] = (enc n).data[0]'hp := rfl
  rw [hx, ← Array.getElem_toList] at e
  cases hd : (enc n).data.toList with
  | nil =>
    have : (enc n).data.toList.length = (enc n).size := by rw [Array.length_toList]; rfl
    rw [hd] at this
    simp at this
    omega
  | cons x l =>
    simp only [hd, List.getElem_cons_zero] at e
    simp [e]
def Sm (N : Nat) : Prop := (digs 256 N).length ≤ 16384
theorem Sm.size {N : Nat} (h : Sm N) : (enc N).size ≤ maxLen := by
  rw [enc_size]; unfold Sm at h; unfold maxLen; omega
theorem Small_any (a : ByteArray) (w : World) (ha : a.size ≤ maxLen) :
    Calls Try.prog 25 #[.string a] w fun e w' => e = .returned (if Ok a ∧ a.size ≤ 8 then .tuple #[.int .u64 (bval a : Nat), .bool true] else .tuple #[.int .u64 0, .bool false]) ∧ Below w.heap.size w w' := by
  have HM := Lib.hid fun t ht => may_one a w ha t ht
  by_cases hok : Ok a
  · have HM2 := Lib.hid (HM.out true (by simp [hok]))
    by_cases h8 : a.size ≤ 8
    · rw [if_pos ⟨hok, h8⟩]
      have HA := Lib.hid fun w => open_row a hok.1 w
      have HLT : Hid (bval a < 18446744073709551616) := Nat.lt_of_lt_of_le (bval_lt a) (Nat.pow_le_pow_right (n := 256) (i := a.size) (j := 8) (by omega) h8)
      have HV : Hid (bval a % 4294967296 + bval a / 4294967296 % 4294967296 * 4294967296 = bval a) := by
        show _ = _
        have := HLT.out
        omega
      clear hok ha HM
      generalize bval a = N at *
      have hx : N % 4294967296 < 4294967296 := Nat.mod_lt _ (by omega)
      have hy : N / 4294967296 % 4294967296 < 4294967296 := Nat.mod_lt _ (by omega)
      have hor := right_or (N % 4294967296) (N / 4294967296 % 4294967296) hx hy
      rw [HV.out] at hor
      have HG0 : Hid (∀ L : List Nat, (∀ d ∈ L, d < 4294967296) → dval 4294967296 L = N → L.getD 0 0 = N % 4294967296) := fun L h1 h2 => by rw [dval_get L h1 0, h2]; simp
      have HG1 : Hid (∀ L : List Nat, (∀ d ∈ L, d < 4294967296) → dval 4294967296 L = N → L.getD 1 0 = N / 4294967296 % 4294967296) := fun L h1 h2 => by rw [dval_get L h1 1, h2]
      clear HV
      generalize N % 4294967296 = x at *
      generalize N / 4294967296 % 4294967296 = y at *
      go_enter Try.func25, Try.ntmps25
      go_wp2_with (first | (go_at_call 41; refine HM2.out.mono ?_; rintro e w1 ⟨rfl, B1⟩) | (go_at_call 42; with_reducible refine (HA.out _).mono ?_; rintro e w2 ⟨aa, ca, LA, rfl, RA, VA, SA, NA, B2⟩; have C0 := Lib.hid (at_z aa LA.length ca LA rfl 0 0 rfl w2 RA.out); have C1 := Lib.hid (at_z aa LA.length ca LA rfl 1 1 rfl w2 RA.out); rw [HG0.out LA SA.out VA.out] at C0; rw [HG1.out LA SA.out VA.out] at C1) | (go_at_call 43; with_reducible refine C0.out.mono ?_; rintro e w' ⟨rfl, rfl⟩) | (go_at_call 43; with_reducible refine C1.out.mono ?_; rintro e w' ⟨rfl, rfl⟩))
      go_ret2
      exact ⟨by rw [← hor]; rfl, B1.on B2⟩
    · rw [if_neg (fun h => h8 h.2)]
      have h8z : (8 : Int) < (a.size : Int) := by omega
      clear hok ha HM
      go_enter Try.func25, Try.ntmps25
      go_wp2_with (go_at_call 41; refine HM2.out.mono ?_; rintro e w1 ⟨rfl, B1⟩)
      go_ret2
      exact ⟨rfl, B1⟩
  · have HM2 := Lib.hid (HM.out false (by simp only [hok, decide_false]))
    rw [if_neg (fun h => hok h.1)]
    clear hok HM
    go_enter Try.func25, Try.ntmps25
    go_wp2_with (go_at_call 41; refine HM2.out.mono ?_; rintro e w1 ⟨rfl, B1⟩)
    go_ret2
    exact ⟨rfl, B1⟩
end Go.Proofs.Ytacpakmglmfgnaa
