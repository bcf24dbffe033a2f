/-
  Fermat's theorem for the prime powers up to 3000 and the bases up to 64, by reckoning; the order's exponent.
-/
import Derived.Test.YtacpakmglmfgnaaTb
namespace Go.Proofs.Ytacpakmglmfgnaa
open Nat

def tq (q c d : Nat) : Bool := Nat.beq (d % q) 0 || Nat.beq ((d ^ (q ^ (c - 1) * (q - 1))) % q ^ c) 1
def allD (q c : Nat) : Bool := (List.range 65).all (tq q c)
def isP (q : Nat) : Bool := (List.range 55).all fun k => Nat.ble k 1 || Nat.blt q (k * k) || !Nat.beq (q % k) 0
def chunk (a : Nat) : Bool := (List.range 50).all fun b => !isP (50 * a + b) || allD (50 * a + b) 1
def chunks : Bool := (List.range 61).all chunk
def higher : Bool := (List.range 55).all fun q => !isP q || (List.range 12).all fun c => Nat.ble c 1 || Nat.blt 3000 (q ^ c) || allD q c
set_option maxRecDepth 100000 in
theorem chunks_ok : chunks = true := by decide +kernel
set_option maxRecDepth 100000 in
theorem higher_ok : higher = true := by decide +kernel
theorem isP_of {q : Nat} (h : Pr q) : isP q = true := by
  unfold isP
  rw [List.all_eq_true]
  intro k hk
  have h2 := h.1
  simp only [Bool.or_eq_true, Bool.not_eq_true', Nat.ble_eq, Nat.blt_eq]
  by_cases h1 : k ≤ 1
  · exact .inl (.inl h1)
  · by_cases h3 : q < k * k
    · exact .inl (.inr h3)
    · refine .inr ?_
      cases e : Nat.beq (q % k) 0
      · rfl
      · exfalso
        have e' : q % k = 0 := Nat.eq_of_beq_eq_true e
        rcases h.2 k (Nat.dvd_of_mod_eq_zero e') with h4 | h4
        · omega
        · subst h4
          have : k * 2 ≤ k * k := Nat.mul_le_mul_left k h2
          omega
theorem fermat {q c d : Nat} (hq : Pr q) (hc : 0 < c) (hqc : q ^ c ≤ 3000) (hd : d ≤ 64) (hd0 : 0 < d) (hqd : ¬ q ∣ d) : q ^ c ∣ d ^ (q ^ (c - 1) * (q - 1)) - 1 := by
  have hp := isP_of hq
  have h2 := hq.1
  have key : allD q c = true := by
    by_cases h1 : c = 1
    · subst h1
      rw [Nat.pow_one] at hqc
      have h := chunks_ok
      unfold chunks at h
      rw [List.all_eq_true] at h
      have h3 := h (q / 50) (List.mem_range.2 (by omega))
      unfold chunk at h3
      rw [List.all_eq_true] at h3
      have h4 := h3 (q % 50) (List.mem_range.2 (by omega))
      rw [Nat.div_add_mod, hp] at h4
      simpa using h4
    · have h := higher_ok
      unfold higher at h
      rw [List.all_eq_true] at h
      have hq54 : q ≤ 54 := by
        rcases Nat.lt_or_ge 54 q with hl | hl
        · exfalso
          have a1 : 55 ^ 2 ≤ q ^ 2 := Nat.pow_le_pow_left (by omega) 2
          have a2 : q ^ 2 ≤ q ^ c := Nat.pow_le_pow_right (by omega) (by omega)
          omega
        · exact hl
      have hc12 : c < 12 := by
        rcases Nat.lt_or_ge c 12 with hl | hl
        · exact hl
        · exfalso
          have a1 : 2 ^ c ≤ q ^ c := Nat.pow_le_pow_left h2 c
          have a2 : 2 ^ 12 ≤ 2 ^ c := Nat.pow_le_pow_right (by omega) hl
          omega
      have h3 := h q (List.mem_range.2 (by omega))
      rw [hp] at h3
      simp only [Bool.not_true, Bool.false_or] at h3
      rw [List.all_eq_true] at h3
      have h4 := h3 c (List.mem_range.2 hc12)
      have b1 : Nat.ble c 1 = false := by
        cases e : Nat.ble c 1
        · rfl
        · rw [Nat.ble_eq] at e; omega
      have b2 : Nat.blt 3000 (q ^ c) = false := by
        cases e : Nat.blt 3000 (q ^ c)
        · rfl
        · rw [Nat.blt_eq] at e; omega
      rw [b1, b2] at h4
      simpa using h4
  unfold allD at key
  rw [List.all_eq_true] at key
  have h5 := key d (List.mem_range.2 (by omega))
  unfold tq at h5
  have b1 : Nat.beq (d % q) 0 = false := by
    cases e : Nat.beq (d % q) 0
    · rfl
    · exact absurd (Nat.dvd_of_mod_eq_zero (Nat.eq_of_beq_eq_true e)) hqd
  rw [b1, Bool.false_or] at h5
  have h6 := Nat.eq_of_beq_eq_true h5
  rw [one_dvd_pow _ d _ hd0, h6]
  have : 1 < q ^ c := Nat.one_lt_pow (by omega) h2
  rw [Nat.mod_eq_of_lt this]

theorem mem_pow_dvd : ∀ {l : List (Nat × Nat)}, ∀ y ∈ l, y.1 ^ y.2 ∣ prodF l := by
  intro l
  induction l with
  | nil => intro y hy; cases hy
  | cons x r ih =>
    intro y hy
    rcases List.mem_cons.1 hy with rfl | hy
    · exact Nat.dvd_mul_right _ _
    · exact Nat.dvd_mul_left_of_dvd (ih y hy) _
theorem mem_pos : ∀ {l : List (Nat × Nat)}, GoodF l → ∀ y ∈ l, 0 < y.2 := by
  intro l
  induction l with
  | nil => intro _ y hy; cases hy
  | cons x r ih =>
    rintro ⟨h1, h2, h3, h4⟩ y hy
    rcases List.mem_cons.1 hy with rfl | hy
    · exact h2
    · exact ih h4 y hy
/-- What the program reckons is the order. -/
theorem ordA_spec {den d : Nat} (hden : 0 < den) (hl : den ≤ 3000) (hd : 0 < d) (hd2 : d ≤ 64) (hc : Coprime den d) : IsOrd den d (ordA den d) := by
  unfold ordA
  by_cases h1 : den = 1
  · rw [if_pos h1, h1]
    exact ⟨by omega, Nat.one_dvd _, fun k hk _ => hk⟩
  · rw [if_neg h1]
    obtain ⟨f1, f2⟩ := facs_spec den hden
    refine order_spec hd (by omega) (phiF_pos _ f2) ?_
    have h2 := phi_pow (K := phiF (facs den)) hd (facs den) f2 (by rw [f1]; exact hc.symm) (Nat.dvd_refl _) (fun x hx => ?_)
    · rw [f1] at h2; exact h2
    · have hpr := mem_pr f2 x hx
      have hdv : x.1 ∣ den := by have := mem_dvd f2 x hx; rw [f1] at this; exact this
      have hle : x.1 ^ x.2 ≤ den := by
        have := mem_pow_dvd x hx
        rw [f1] at this
        exact Nat.le_of_dvd hden this
      refine fermat hpr (mem_pos f2 x hx) (by omega) hd2 hd fun hxd => ?_
      have := (Coprime.coprime_dvd_left hdv hc).eq_one_of_dvd hxd
      have := hpr.1
      omega
/-- The preperiod and the period. -/
def kindA (den d : Nat) : Nat × Nat := ((preF d den den).1, ordA (preF d den den).2 d)
theorem preF_le (d : Nat) : ∀ f D, (preF d f D).2 ≤ D := by
  intro f
  induction f with
  | zero => intro D; exact Nat.le_refl _
  | succ f ih =>
    intro D
    unfold preF
    split
    · exact Nat.le_refl _
    · exact Nat.le_trans (ih _) (Nat.div_le_self _ _)
theorem preF_pos (d : Nat) : ∀ f D, 0 < D → 0 < (preF d f D).2 := by
  intro f
  induction f with
  | zero => intro D h; exact h
  | succ f ih =>
    intro D h
    unfold preF
    split
    · exact h
    · exact ih _ (Nat.div_pos (Nat.le_of_dvd h (Nat.gcd_dvd_left _ _)) (Nat.gcd_pos_of_pos_left _ h))
/-- WHERE TWO MEMBERS OF AN ORBIT ARE THE SAME, by what the program reckons. -/
theorem kind_eq {D d n : Nat} (hD : 0 < D) (hl : D ≤ 3000) (hd : 0 < d) (hd2 : d ≤ 64) (hn : Coprime n D) {i j : Nat} (hij : i < j) : n * d ^ i % D = n * d ^ j % D ↔ (kindA D d).1 ≤ i ∧ (kindA D d).2 ∣ j - i := by
  have hp := preF_spec d D D hD (Nat.le_refl _)
  have ho := ordA_spec (preF_pos d D D hD) (Nat.le_trans (preF_le d D D) hl) hd hd2 hp.cop
  exact orbit_eq hd hp ho hn hij
theorem kind_pos {D d : Nat} (hD : 0 < D) (hl : D ≤ 3000) (hd : 0 < d) (hd2 : d ≤ 64) : 0 < (kindA D d).2 := by
  have hp := preF_spec d D D hD (Nat.le_refl _)
  exact (ordA_spec (preF_pos d D D hD) (Nat.le_trans (preF_le d D D) hl) hd hd2 hp.cop).pos
#print axioms kind_eq
end Go.Proofs.Ytacpakmglmfgnaa
