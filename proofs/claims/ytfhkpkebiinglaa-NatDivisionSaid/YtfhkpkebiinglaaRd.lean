/-
  Reading decimal digits: the plain law.
-/
import Derived.Test.YtfhkpkebiinglaaTwo
namespace Go.Proofs.Ytfhkpkebiinglaa
open Go.RowKit

/-- The digits that a text's bytes stand for, the lowest first. -/
def tdig (s : ByteArray) : List Nat := (bytesR s).map (· - 48)
def tval (s : ByteArray) : Nat := dval 10 (tdig s)
/-- The value of the first f bytes. -/
def tpre (s : ByteArray) (f : Nat) : Nat := dval 10 ((tdig s).drop (s.size - f))
theorem tdig_len (s : ByteArray) : (tdig s).length = s.size := by simp [tdig, bytesR_len]
theorem tpre_zero (s : ByteArray) : tpre s 0 = 0 := by
  unfold tpre
  rw [List.drop_of_length_le (by rw [tdig_len]; omega)]; rfl
theorem tpre_all (s : ByteArray) : tpre s s.size = tval s := by unfold tpre tval; rw [Nat.sub_self, List.drop_zero]
theorem tpre_succ (s : ByteArray) (f : Nat) (h : f < s.size) : tpre s (f + 1) = 10 * tpre s f + (s[f].toNat - 48) := by
  unfold tpre
  have h1 : s.size - (f + 1) < (tdig s).length := by rw [tdig_len]; omega
  have h2 : s.size - (f + 1) < (bytesR s).length := by rw [bytesR_len]; omega
  have e : (tdig s)[s.size - (f + 1)] = s[f].toNat - 48 := by
    simp only [tdig, List.getElem_map]
    rw [bytesR_get s _ h2 f (by omega) h]
  rw [List.drop_eq_getElem_cons h1, e, show s.size - (f + 1) + 1 = s.size - f by omega]
  simp only [dval]; omega
/-- A text of digits. -/
structure DigOk (s : ByteArray) : Prop where
  ne : s.size ≠ 0
  lead : 1 < s.size → ∀ h : 0 < s.size, s[0].toNat ≠ 48
  all : ∀ i (h : i < s.size), 48 ≤ s[i].toNat ∧ s[i].toNat ≤ 57
/-- Nine more digits: where their taking stands. -/
structure NineAt (s : ByteArray) (f to g ten d : Nat) : Prop where
  lo : f ≤ g
  hi : g ≤ to
  nine : to ≤ f + 9
  size : to ≤ s.size
  ten_eq : ten = 10 ^ (g - f)
  low : d < 10 ^ (g - f)
  val : tpre s g = tpre s f * ten + d
theorem NineAt.start (s : ByteArray) (f to : Nat) (h1 : f ≤ to) (h2 : to ≤ f + 9) (h3 : to ≤ s.size) : NineAt s f to f 1 0 := ⟨Nat.le_refl _, h1, h2, h3, by simp, by simp, by simp⟩
theorem NineAt.step {s : ByteArray} {f to g ten d : Nat} (h : NineAt s f to g ten d) (hg : g < to) (hs : g < s.size) (hd : 48 ≤ s[g].toNat ∧ s[g].toNat ≤ 57) :
    NineAt s f to (g + 1) (ten * 10) (10 * d + (s[g].toNat - 48)) := by
  have hl := h.lo
  have hlow := h.low
  have e : g + 1 - f = (g - f) + 1 := by omega
  refine ⟨by omega, hg, h.nine, h.size, by rw [e, Nat.pow_succ, h.ten_eq], ?_, ?_⟩
  · rw [e, Nat.pow_succ]; omega
  · rw [tpre_succ s g hs, h.val, Nat.mul_add, Nat.mul_comm ten 10, Nat.mul_left_comm]; omega
theorem NineAt.bounds {s : ByteArray} {f to g ten d : Nat} (h : NineAt s f to g ten d) : 1 ≤ ten ∧ ten ≤ 1000000000 ∧ d < ten := by
  have h1 := h.hi
  have h2 := h.nine
  have e : (1000000000 : Nat) = 10 ^ 9 := rfl
  rw [h.ten_eq, e]
  exact ⟨Nat.pow_pos (by omega), Nat.pow_le_pow_right (by omega) (by omega), h.low⟩
/-- The limbs times ten (to a power) and the carry. -/
structure MadAt (β : Nat) (A : List Nat) (ten d0 i d : Nat) (O : List Nat) : Prop where
  len : O.length = A.length
  lt : ∀ x ∈ O, x < β
  upto : i ≤ A.length
  carry : d < ten
  rest : O.drop i = A.drop i
  val : dval β (O.take i) + d * β ^ i = dval β (A.take i) * ten + d0
theorem MadAt.start {β : Nat} {A : List Nat} {ten d0 : Nat} (hA : ∀ x ∈ A, x < β) (hd : d0 < ten) : MadAt β A ten d0 0 d0 A := ⟨rfl, hA, Nat.zero_le _, hd, rfl, by simp [dval]⟩
theorem MadAt.step {β : Nat} {A : List Nat} {ten d0 i d : Nat} {O : List Nat} (h : MadAt β A ten d0 i d O) (hβ : 0 < β) (hA : ∀ x ∈ A, x < β) (hi : i < A.length) :
    MadAt β A ten d0 (i + 1) ((d + A[i] * ten) / β) (O.set i ((d + A[i] * ten) % β)) := by
  have hx := hA _ (List.getElem_mem hi)
  have hc := h.carry
  have hO : i < O.length := by rw [h.len]; exact hi
  refine ⟨by rw [List.length_set]; exact h.len, mem_set_lt h.lt (Nat.mod_lt _ hβ), hi, ?_, ?_, ?_⟩
  · rw [Nat.div_lt_iff_lt_mul hβ]
    have : (A[i] + 1) * ten ≤ β * ten := Nat.mul_le_mul_right _ hx
    rw [Nat.add_mul] at this
    rw [Nat.mul_comm ten]
    omega
  · rw [List.drop_set_of_lt (by omega)]
    have h1 := congrArg (List.drop 1) h.rest
    rw [List.drop_drop, List.drop_drop] at h1
    exact h1
  · rw [dval_take_set β O i _ hO, dval_take_succ β A i hi]
    have hv := h.val
    generalize A[i] = x at *
    have hdm := Nat.div_add_mod (d + x * ten) β
    generalize (d + x * ten) / β = q at *
    generalize (d + x * ten) % β = r at *
    have e1 : q * β ^ (i + 1) = β ^ i * (β * q) := by rw [Nat.pow_succ, Nat.mul_comm, Nat.mul_assoc]
    have e2 : β ^ i * (β * q + r) = β ^ i * (d + x * ten) := by rw [hdm]
    rw [Nat.mul_add, Nat.mul_add, Nat.mul_comm (β ^ i) d, ← Nat.mul_assoc (β ^ i) x] at e2
    rw [e1, Nat.add_mul]
    omega
theorem MadAt.get {β : Nat} {A : List Nat} {ten d0 i d : Nat} {O : List Nat} (h : MadAt β A ten d0 i d O) (hi : i < A.length) (hO : i < O.length) : O[i] = A[i] := by
  have h1 := h.rest
  rw [List.drop_eq_getElem_cons hi, List.drop_eq_getElem_cons hO] at h1
  exact (List.cons.inj h1).1
theorem MadAt.leave {β : Nat} {A : List Nat} {ten d0 d : Nat} {O : List Nat} (h : MadAt β A ten d0 A.length d O) : dval β (O ++ [d]) = dval β A * ten + d0 := by
  have hv := h.val
  rw [List.take_of_length_le (Nat.le_refl _), List.take_of_length_le (by rw [h.len]; exact Nat.le_refl _)] at hv
  rw [dval_snoc, h.len, Nat.mul_comm]
  exact hv
/-- A store into an own row. -/
theorem Ap.store {w0 w : World} {e : TypeId} {k : IntKind} {g n cap : Nat} {L : List Nat} (h : Ap w0 e k (.slice (some ⟨g, 0, none⟩) n cap) L w) (hn : L.length = n) (j d : Nat) :
    Ap w0 e k (.slice (some ⟨g, 0, none⟩) n cap) (L.set j d) (w.setCell ⟨g, j, none⟩ (.int k (d : Nat))) := by
  subst hn
  have hb := (h.own.lt g rfl).1
  refine ⟨?_, h.below.setCell (by exact hb) _⟩
  have := (h.own.stored j (.int k (d : Nat))).1
  rw [List.length_set]
  have e : cu k (L.set j d) = (cu k L).set j (.int k (d : Nat)) := by unfold cu; rw [List.map_set]
  rw [e]; exact this
theorem Ap.frozen {w0 w : World} {e : TypeId} {k : IntKind} {g n cap : Nat} {L : List Nat} (h : Ap w0 e k (.slice (some ⟨g, 0, none⟩) n cap) L w) (hn : L.length = n) (j : Nat) : w.frozen? ⟨g, j, none⟩ = false := by
  subst hn; exact h.own.frozenAt j
/-- What Read answers. -/
def readIs (s : ByteArray) (v : Value) : Prop :=
  (¬ DigOk s ∧ v = .tuple #[.string ⟨#[]⟩, .int .i64 22]) ∨ (DigOk s ∧ 49152 < s.size ∧ v = .tuple #[.string ⟨#[]⟩, .int .i64 4]) ∨ (DigOk s ∧ s.size ≤ 49152 ∧ v = endN (tval s))
theorem readIs.eq {s : ByteArray} {v v' : Value} (h : readIs s v) (k : readIs s v') : v = v' := by
  rcases h with ⟨h1, rfl⟩ | ⟨h1, h2, rfl⟩ | ⟨h1, h2, rfl⟩ <;> rcases k with ⟨k1, rfl⟩ | ⟨k1, k2, rfl⟩ | ⟨k1, k2, rfl⟩ <;> first | rfl | exact absurd h1 k1 | exact absurd k1 h1 | omega
end Go.Proofs.Ytfhkpkebiinglaa
