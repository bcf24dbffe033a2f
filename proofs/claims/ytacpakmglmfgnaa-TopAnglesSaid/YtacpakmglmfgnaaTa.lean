/-
  Orders modulo a number, preperiods and periods: the plain law. No program in sight.
-/
import Derived.KernelRfl
namespace Go.Proofs.Ytacpakmglmfgnaa
open Nat

/-! ### powers modulo -/
theorem mod_eq_iff_dvd {m a b : Nat} (h : a ≤ b) : a % m = b % m ↔ m ∣ b - a := by
  constructor
  · intro e
    exact Nat.dvd_of_mod_eq_zero (Nat.sub_mod_eq_zero_of_mod_eq e.symm)
  · rintro ⟨c, hc⟩
    have : b = a + m * c := by omega
    rw [this, Nat.add_mul_mod_self_left]
theorem pow_split (d i j : Nat) (h : i ≤ j) : d ^ j - d ^ i = d ^ i * (d ^ (j - i) - 1) := by
  have e : d ^ j = d ^ i * d ^ (j - i) := by rw [← Nat.pow_add]; congr 1; omega
  rw [e, Nat.mul_sub, Nat.mul_one]
theorem one_dvd_pow (e d k : Nat) (hd : 0 < d) : e ∣ d ^ k - 1 ↔ d ^ k % e = 1 % e := by
  rw [← mod_eq_iff_dvd (Nat.one_le_pow _ _ hd)]
  exact eq_comm
theorem pow_coprime_pred (d k : Nat) (hd : 0 < d) (hk : 0 < k) : Coprime (d ^ k - 1) d := by
  have h1 : gcd (d ^ k - 1) d ∣ d ^ k - 1 := Nat.gcd_dvd_left _ _
  have h2 : gcd (d ^ k - 1) d ∣ d ^ k := Nat.dvd_trans (Nat.gcd_dvd_right _ _) (by
    obtain ⟨j, rfl⟩ : ∃ j, k = j + 1 := ⟨k - 1, by omega⟩
    rw [Nat.pow_succ]; exact Nat.dvd_mul_left _ _)
  have h3 : gcd (d ^ k - 1) d ∣ d ^ k - (d ^ k - 1) := Nat.dvd_sub h2 h1
  have h4 : d ^ k - (d ^ k - 1) = 1 := by have := Nat.one_le_pow k d hd; omega
  rw [h4] at h3
  exact Nat.dvd_one.1 h3
theorem dvd_pow_mul {e d k : Nat} (m : Nat) (hd : 0 < d) (h : e ∣ d ^ k - 1) : e ∣ d ^ (k * m) - 1 := by
  rw [one_dvd_pow e d _ hd] at h ⊢
  rw [Nat.pow_mul, Nat.pow_mod, h, ← Nat.pow_mod, Nat.one_pow]

/-- L is the least exponent above 0 at which d is 1 modulo e. -/
structure IsOrd (e d L : Nat) : Prop where
  pos : 0 < L
  one : e ∣ d ^ L - 1
  least : ∀ k, 0 < k → e ∣ d ^ k - 1 → L ≤ k
theorem IsOrd.iff {e d L : Nat} (h : IsOrd e d L) (hd : 0 < d) (k : Nat) : e ∣ d ^ k - 1 ↔ L ∣ k := by
  constructor
  · intro hk
    have hr : d ^ k % e = d ^ (k % L) % e := by
      have e1 : k = L * (k / L) + k % L := (Nat.div_add_mod k L).symm
      have e2 := (one_dvd_pow e d _ hd).1 (dvd_pow_mul (k / L) hd h.one)
      conv => lhs; rw [e1, Nat.pow_add, Nat.mul_mod, e2, ← Nat.mul_mod, Nat.one_mul]
    rcases Nat.eq_zero_or_pos (k % L) with h0 | h0
    · exact Nat.dvd_of_mod_eq_zero h0
    · exfalso
      have h1 := h.least (k % L) h0 ((one_dvd_pow e d _ hd).2 (by rw [← hr]; exact (one_dvd_pow e d _ hd).1 hk))
      have := Nat.mod_lt k h.pos
      omega
  · rintro ⟨m, rfl⟩
    exact dvd_pow_mul m hd h.one

/-! ### what stands ahead -/
/-- How often the common divisor can be taken out, and what is left. -/
def preF (d : Nat) : Nat → Nat → Nat × Nat
  | 0, D => (0, D)
  | f + 1, D => if gcd D d = 1 then (0, D) else ((preF d f (D / gcd D d)).1 + 1, (preF d f (D / gcd D d)).2)
structure IsPre (D d P e : Nat) : Prop where
  prod : ∃ M, D = M * e ∧ Coprime M e ∧ ∀ i, M ∣ d ^ i ↔ P ≤ i
  cop : Coprime e d
theorem pre_step {D d M e g : Nat} (hD : 0 < D) (hg : g = gcd D d) (h1 : D = g * (M * e)) (y : Nat) : g * M ∣ d * y ↔ M ∣ y := by
  have hgp : 0 < g := by rw [hg]; exact Nat.gcd_pos_of_pos_left _ hD
  obtain ⟨b, hb⟩ : g ∣ d := by rw [hg]; exact Nat.gcd_dvd_right _ _
  have hc : Coprime (D / gcd D d) (d / gcd D d) := Nat.coprime_div_gcd_div_gcd (by rw [← hg]; exact hgp)
  rw [← hg] at hc
  have e1 : D / g = M * e := by rw [h1, Nat.mul_div_cancel_left _ hgp]
  have e2 : d / g = b := by rw [hb, Nat.mul_div_cancel_left _ hgp]
  rw [e1, e2] at hc
  have hMb : Coprime M b := hc.coprime_mul_right
  rw [hb, Nat.mul_assoc, Nat.mul_dvd_mul_iff_left hgp]
  exact ⟨fun h => hMb.dvd_of_dvd_mul_left h, fun h => Nat.dvd_mul_left_of_dvd h b⟩
theorem preF_spec (d : Nat) : ∀ f D, 0 < D → D ≤ f → IsPre D d (preF d f D).1 (preF d f D).2 := by
  intro f
  induction f with
  | zero => intro D h1 h2; omega
  | succ f ih =>
    intro D hD hf
    unfold preF
    by_cases hg : gcd D d = 1
    · rw [if_pos hg]
      exact ⟨⟨1, by simp, Nat.coprime_one_left _, fun i => by simp⟩, hg⟩
    · rw [if_neg hg]
      have hgp : 0 < gcd D d := Nat.gcd_pos_of_pos_left _ hD
      have hg2 : 2 ≤ gcd D d := by omega
      have hdv : D = gcd D d * (D / gcd D d) := (Nat.mul_div_cancel' (Nat.gcd_dvd_left _ _)).symm
      have hlt : D / gcd D d < D := Nat.div_lt_self hD hg2
      have hpos : 0 < D / gcd D d := Nat.div_pos (Nat.le_of_dvd hD (Nat.gcd_dvd_left _ _)) hgp
      obtain ⟨⟨M, m1, m2, m3⟩, c⟩ := ih (D / gcd D d) hpos (by omega)
      generalize (preF d f (D / gcd D d)).1 = P at *
      generalize (preF d f (D / gcd D d)).2 = e at *
      have h1 : D = gcd D d * (M * e) := by rw [← m1]; exact hdv
      refine ⟨⟨gcd D d * M, by rw [Nat.mul_assoc]; exact h1, ?_, fun i => ?_⟩, c⟩
      · exact Coprime.mul_left (Coprime.coprime_dvd_left (Nat.gcd_dvd_right D d) c.symm) m2
      · cases i with
        | zero =>
          rw [Nat.pow_zero]
          constructor
          · intro h
            have := Nat.le_of_dvd (by omega) (Nat.dvd_trans (Nat.dvd_mul_right _ _) h)
            omega
          · intro h; omega
        | succ i =>
          rw [Nat.pow_succ, Nat.mul_comm (d ^ i), pre_step hD rfl h1, m3]
          omega

/-- WHERE TWO MEMBERS OF AN ORBIT ARE THE SAME. -/
theorem orbit_eq {D d P e L n : Nat} (hd : 0 < d) (hp : IsPre D d P e) (ho : IsOrd e d L) (hn : Coprime n D) {i j : Nat} (hij : i < j) : n * d ^ i % D = n * d ^ j % D ↔ P ≤ i ∧ L ∣ j - i := by
  obtain ⟨⟨M, rfl, hMe, hM⟩, hc⟩ := hp
  have hle : d ^ i ≤ d ^ j := Nat.pow_le_pow_right hd (Nat.le_of_lt hij)
  rw [mod_eq_iff_dvd (Nat.mul_le_mul_left n hle), ← Nat.mul_sub, pow_split d i j (Nat.le_of_lt hij)]
  have hw := pow_coprime_pred d (j - i) hd (by omega)
  have hMd : Coprime M (d ^ (j - i) - 1) := by
    have h1 : M ∣ d ^ P := (hM P).2 (Nat.le_refl _)
    exact Coprime.coprime_dvd_left h1 (Coprime.pow_left P hw.symm)
  rw [← ho.iff hd (j - i), ← hM i]
  constructor
  · intro h
    have h1 := Coprime.dvd_of_dvd_mul_left hn.symm h
    exact ⟨hMd.dvd_of_dvd_mul_right (Nat.dvd_trans (Nat.dvd_mul_right M e) h1), (Coprime.pow_right i hc).dvd_of_dvd_mul_left (Nat.dvd_trans (Nat.dvd_mul_left e M) h1)⟩
  · rintro ⟨h1, h2⟩
    refine Nat.dvd_mul_left_of_dvd ?_ n
    exact Nat.mul_dvd_mul h1 h2
end Go.Proofs.Ytacpakmglmfgnaa
