/-
  Primes of a number by trial division, and the order by them: the plain law.
-/
import Derived.Test.YtacpakmglmfgnaaTa
namespace Go.Proofs.Ytacpakmglmfgnaa
open Nat

/-- q is prime. -/
def Pr (q : Nat) : Prop := 2 ≤ q ∧ ∀ k, k ∣ q → k = 1 ∨ k = q
theorem Pr.cop {q n : Nat} (h : Pr q) (hn : ¬ q ∣ n) : Coprime q n := by
  rcases h.2 _ (Nat.gcd_dvd_left q n) with h1 | h1
  · exact h1
  · exact absurd (by rw [← h1]; exact Nat.gcd_dvd_right q n) hn

/-- A prime taken out of a number as often as it stands in it. -/
def spl (p : Nat) : Nat → Nat → Nat → Nat × Nat
  | 0, n, c => (n, c)
  | f + 1, n, c => if n % p = 0 then spl p f (n / p) (c + 1) else (n, c)
/-- The primes of a number, by trial from p on. -/
def tri : Nat → Nat → Nat → List (Nat × Nat)
  | 0, _, _ => []
  | f + 1, n, p => if p * p ≤ n then (if 0 < (spl p n n 0).2 then [(p, (spl p n n 0).2)] else []) ++ tri f (spl p n n 0).1 (p + 1) else if 1 < n then [(n, 1)] else []
def facs (n : Nat) : List (Nat × Nat) := tri (n + 1) n 2

def prodF : List (Nat × Nat) → Nat
  | [] => 1
  | x :: r => x.1 ^ x.2 * prodF r
/-- Distinct primes. -/
def GoodF : List (Nat × Nat) → Prop
  | [] => True
  | x :: r => Pr x.1 ∧ 0 < x.2 ∧ Coprime x.1 (prodF r) ∧ GoodF r

theorem spl_spec (p : Nat) (hp : 2 ≤ p) : ∀ f n c, 0 < n → n ≤ f → ∃ k, (spl p f n c).2 = c + k ∧ n = p ^ k * (spl p f n c).1 ∧ ¬ p ∣ (spl p f n c).1 := by
  intro f
  induction f with
  | zero => intro n c h1 h2; omega
  | succ f ih =>
    intro n c hn hf
    unfold spl
    by_cases h : n % p = 0
    · rw [if_pos h]
      have hd : p ∣ n := Nat.dvd_of_mod_eq_zero h
      have h1 : 0 < n / p := Nat.div_pos (Nat.le_of_dvd hn hd) (by omega)
      have h2 : n / p < n := Nat.div_lt_self hn hp
      obtain ⟨k, a, b, d⟩ := ih (n / p) (c + 1) h1 (by omega)
      refine ⟨k + 1, by omega, ?_, d⟩
      rw [Nat.pow_succ, Nat.mul_comm (p ^ k), Nat.mul_assoc, ← b, Nat.mul_div_cancel' hd]
    · rw [if_neg h]
      exact ⟨0, rfl, by simp, fun hd => h (Nat.mod_eq_zero_of_dvd hd)⟩

/-- No divisor of n lies between 1 and p. -/
def NoDiv (n p : Nat) : Prop := ∀ k, 1 < k → k < p → ¬ k ∣ n
theorem tri_spec : ∀ f n p, 0 < n → 2 ≤ p → n + 2 < f + p → NoDiv n p → prodF (tri f n p) = n ∧ GoodF (tri f n p) := by
  intro f
  induction f with
  | zero =>
    intro n p hn hp hf hd
    have h1 : n = 1 := by
      rcases Nat.lt_or_ge 1 n with h | h
      · exact absurd (Nat.dvd_refl n) (hd n h (by omega))
      · omega
    subst h1
    exact ⟨rfl, trivial⟩
  | succ f ih =>
    intro n p hn hp hf hd
    unfold tri
    by_cases hpp : p * p ≤ n
    · rw [if_pos hpp]
      obtain ⟨k, s1, s2, s3⟩ := spl_spec p hp n n 0 hn (Nat.le_refl _)
      rw [Nat.zero_add] at s1
      generalize (spl p n n 0).2 = c at *
      generalize (spl p n n 0).1 = n' at *
      subst s1
      have hn' : 0 < n' := by
        rcases Nat.eq_zero_or_pos n' with h | h
        · rw [h, Nat.mul_zero] at s2; omega
        · exact h
      have hle : n' ≤ n := by rw [s2]; exact Nat.le_mul_of_pos_left _ (Nat.pow_pos (by omega))
      have hdn : n' ∣ n := by rw [s2]; exact Nat.dvd_mul_left _ _
      obtain ⟨i1, i2⟩ := ih n' (p + 1) hn' (by omega) (by omega) (by
        intro j j1 j2 j3
        by_cases e : j = p
        · rw [e] at j3; exact s3 j3
        · exact hd j j1 (by omega) (Nat.dvd_trans j3 hdn))
      by_cases hc : 0 < c
      · rw [if_pos hc]
        have hpn : p ∣ n := by
          obtain ⟨c', rfl⟩ : ∃ c', c = c' + 1 := ⟨c - 1, by omega⟩
          rw [s2, Nat.pow_succ, Nat.mul_assoc]
          exact Nat.dvd_mul_left_of_dvd (Nat.dvd_mul_right _ _) _
        have hpr : Pr p := by
          refine ⟨hp, fun j hj => ?_⟩
          rcases Nat.lt_or_ge 1 j with h1 | h1
          · have h2 := Nat.le_of_dvd (by omega) hj
            rcases Nat.lt_or_eq_of_le h2 with h3 | h3
            · exact absurd (Nat.dvd_trans hj hpn) (hd j h1 h3)
            · exact .inr h3
          · have : j ≠ 0 := by rintro rfl; have := Nat.eq_zero_of_zero_dvd hj; omega
            exact .inl (by omega)
        refine ⟨?_, hpr, hc, ?_, i2⟩
        · show p ^ c * prodF (tri f n' (p + 1)) = n
          rw [i1]; exact s2.symm
        · show Coprime p (prodF (tri f n' (p + 1)))
          rw [i1]; exact hpr.cop s3
      · rw [if_neg hc]
        have hc0 : c = 0 := by omega
        rw [hc0, Nat.pow_zero, Nat.one_mul] at s2
        rw [List.nil_append, i1]
        exact ⟨s2.symm, i2⟩
    · rw [if_neg hpp]
      by_cases h1 : 1 < n
      · rw [if_pos h1]
        refine ⟨by simp [prodF], ?_, by show 0 < 1; omega, Nat.coprime_one_right _, trivial⟩
        refine ⟨h1, fun k hk => ?_⟩
        show k = 1 ∨ k = n
        obtain ⟨m, hm⟩ : k ∣ n := hk
        rcases Nat.lt_or_ge 1 k with hk1 | hk1
        · rcases Nat.lt_or_ge 1 m with hm1 | hm1
          · exfalso
            have a1 : p ≤ k := by
              rcases Nat.lt_or_ge k p with h | h
              · exact absurd (by rw [hm]; exact Nat.dvd_mul_right _ _) (hd k hk1 h)
              · exact h
            have a2 : p ≤ m := by
              rcases Nat.lt_or_ge m p with h | h
              · exact absurd (by rw [hm]; exact Nat.dvd_mul_left _ _) (hd m hm1 h)
              · exact h
            have := Nat.mul_le_mul a1 a2
            omega
          · have : m = 1 := by
              rcases Nat.eq_zero_or_pos m with h | h
              · rw [h, Nat.mul_zero] at hm; omega
              · omega
            rw [this, Nat.mul_one] at hm
            exact .inr hm.symm
        · have : k ≠ 0 := by rintro rfl; rw [Nat.zero_mul] at hm; omega
          exact .inl (by omega)
      · rw [if_neg h1]
        have : n = 1 := by omega
        rw [this]
        exact ⟨rfl, trivial⟩
theorem facs_spec (n : Nat) (hn : 0 < n) : prodF (facs n) = n ∧ GoodF (facs n) :=
  tri_spec (n + 1) n 2 hn (by omega) (by omega) (fun k h1 h2 => by omega)

/-- A divisor above 1 has one of the primes. -/
theorem has_prime {q : Nat} (hq : 1 < q) : ∀ l, GoodF l → q ∣ prodF l → ∃ x ∈ l, x.1 ∣ q := by
  intro l
  induction l with
  | nil =>
    intro _ h
    have := Nat.le_of_dvd (by show 0 < 1; omega) h
    exact absurd this (by show ¬ q ≤ 1; omega)
  | cons x r ih =>
    rintro ⟨h1, h2, h3, h4⟩ hd
    by_cases hx : x.1 ∣ q
    · exact ⟨x, by simp, hx⟩
    · have hc := Coprime.pow_left x.2 (h1.cop hx)
      obtain ⟨y, hy, hyq⟩ := ih h4 (Coprime.dvd_of_dvd_mul_left hc.symm hd)
      exact ⟨y, by simp [hy], hyq⟩

/-! ### the order -/
def phiF : List (Nat × Nat) → Nat
  | [] => 1
  | x :: r => x.1 ^ (x.2 - 1) * (x.1 - 1) * phiF r
/-- A prime taken out of the exponent, as long as the power stays 1. -/
def down (d den p : Nat) : Nat → Nat → Nat
  | 0, l => l
  | c + 1, l => if d ^ (l / p) % den ≠ 1 then l else down d den p c (l / p)
def downs (d den : Nat) (L : List (Nat × Nat)) (l : Nat) : Nat := L.foldl (fun l x => down d den x.1 x.2 l) l
def ordA (den d : Nat) : Nat := if den = 1 then 1 else downs d den (facs (phiF (facs den))) (phiF (facs den))

theorem down_spec {d den p : Nat} (hd : 0 < d) (hden : 1 < den) (hp : Pr p) : ∀ c l, 0 < l → den ∣ d ^ l - 1 → p ^ c ∣ l → ∃ k, k ≤ c ∧ l = p ^ k * down d den p c l ∧ den ∣ d ^ down d den p c l - 1 ∧ (k = c ∨ ¬ den ∣ d ^ (down d den p c l / p) - 1) := by
  intro c
  induction c with
  | zero => intro l hl h1 h2; exact ⟨0, by omega, by simp [down], h1, .inl rfl⟩
  | succ c ih =>
    intro l hl h1 h2
    have hpl : p ∣ l := Nat.dvd_trans (by rw [Nat.pow_succ]; exact Nat.dvd_mul_left _ _) h2
    have hp2 := hp.1
    unfold down
    by_cases hx : d ^ (l / p) % den ≠ 1
    · rw [if_pos hx]
      refine ⟨0, by omega, by simp, h1, .inr fun h => hx ?_⟩
      rw [one_dvd_pow den d _ hd, Nat.mod_eq_of_lt hden] at h
      exact h
    · rw [if_neg hx]
      have hx' : d ^ (l / p) % den = 1 := Classical.not_not.1 hx
      have h3 : den ∣ d ^ (l / p) - 1 := by rw [one_dvd_pow den d _ hd, Nat.mod_eq_of_lt hden]; exact hx'
      have h4 : p ^ c ∣ l / p := by
        obtain ⟨m, hm⟩ := h2
        refine ⟨m, ?_⟩
        rw [hm, Nat.pow_succ, Nat.mul_comm (p ^ c), Nat.mul_assoc, Nat.mul_div_cancel_left _ (by omega)]
      obtain ⟨k, k1, k2, k3, k4⟩ := ih (l / p) (Nat.div_pos (Nat.le_of_dvd hl hpl) (by omega)) h3 h4
      refine ⟨k + 1, by omega, ?_, k3, ?_⟩
      · rw [Nat.pow_succ, Nat.mul_comm (p ^ k), Nat.mul_assoc, ← k2, Nat.mul_div_cancel' hpl]
      · rcases k4 with h | h
        · exact .inl (by omega)
        · exact .inr h

theorem mem_dvd : ∀ {l : List (Nat × Nat)}, GoodF l → ∀ y ∈ l, y.1 ∣ prodF l := by
  intro l
  induction l with
  | nil => intro _ y hy; cases hy
  | cons x r ih =>
    rintro ⟨h1, h2, h3, h4⟩ y hy
    rcases List.mem_cons.1 hy with rfl | hy
    · obtain ⟨c, hc⟩ : ∃ c, y.2 = c + 1 := ⟨y.2 - 1, by omega⟩
      show y.1 ∣ y.1 ^ y.2 * prodF r
      rw [hc, Nat.pow_succ, Nat.mul_assoc]
      exact Nat.dvd_mul_left_of_dvd (Nat.dvd_mul_right _ _) _
    · exact Nat.dvd_mul_left_of_dvd (ih h4 y hy) _
theorem mem_pr : ∀ {l : List (Nat × Nat)}, GoodF l → ∀ y ∈ l, Pr y.1 := by
  intro l
  induction l with
  | nil => intro _ y hy; cases hy
  | cons x r ih =>
    rintro ⟨h1, h2, h3, h4⟩ y hy
    rcases List.mem_cons.1 hy with rfl | hy
    · exact h1
    · exact ih h4 y hy

/-- What is known of the exponent l when the primes of a list have been tried: the untried ones stand in it as they stood; each tried one is out, or may not be taken out. -/
structure DownAt (d den N : Nat) (l m : Nat) (tried : Nat → Prop) (left : List (Nat × Nat)) : Prop where
  pos : 0 < l
  dv : l ∣ N
  one : den ∣ d ^ l - 1
  prod : l = m * prodF left
  cop : ∀ x ∈ left, Coprime x.1 m
  done : ∀ p, tried p → p ∣ l → ¬ den ∣ d ^ (l / p) - 1
theorem DownAt.step {d den N l m : Nat} {tried : Nat → Prop} {x : Nat × Nat} {r : List (Nat × Nat)} (hd : 0 < d) (hden : 1 < den) (hg : GoodF (x :: r)) (h : DownAt d den N l m tried (x :: r)) :
    ∃ m', DownAt d den N (down d den x.1 x.2 l) m' (fun p => tried p ∨ p = x.1) r := by
  obtain ⟨g1, g2, g3, g4⟩ := hg
  have hp2 := g1.1
  have hpc : x.1 ^ x.2 ∣ l := by
    rw [h.prod]; exact Nat.dvd_mul_left_of_dvd (Nat.dvd_mul_right _ _) _
  obtain ⟨k, k1, k2, k3, k4⟩ := down_spec hd hden g1 x.2 l h.pos h.one hpc
  generalize down d den x.1 x.2 l = l' at *
  have hpk : 0 < x.1 ^ k := Nat.pow_pos (by omega)
  have hl' : 0 < l' := by
    rcases Nat.eq_zero_or_pos l' with e | e
    · rw [e, Nat.mul_zero] at k2; have := h.pos; omega
    · exact e
  have hdv : l' ∣ l := by rw [k2]; exact Nat.dvd_mul_left _ _
  have hprod : l' = m * x.1 ^ (x.2 - k) * prodF r := by
    refine Nat.eq_of_mul_eq_mul_left hpk ?_
    rw [← k2, h.prod]
    show m * (x.1 ^ x.2 * prodF r) = _
    have e : x.1 ^ x.2 = x.1 ^ k * x.1 ^ (x.2 - k) := by rw [← Nat.pow_add]; congr 1; omega
    rw [e]; ac_rfl
  refine ⟨m * x.1 ^ (x.2 - k), hl', Nat.dvd_trans hdv h.dv, k3, hprod, fun y hy => ?_, fun p hp hpl hbad => ?_⟩
  · have h1 := h.cop y (by simp [hy])
    have h2 : Coprime x.1 y.1 := Coprime.coprime_dvd_right (mem_dvd g4 y hy) g3
    exact Coprime.mul_right h1 (Coprime.pow_right _ h2.symm)
  · rcases hp with hp | rfl
    · refine h.done p hp (Nat.dvd_trans hpl hdv) ?_
      have e : l / p = l' / p * x.1 ^ k := by rw [k2, Nat.mul_comm, Nat.mul_div_right_comm hpl]
      rw [e]
      exact dvd_pow_mul _ hd hbad
    · rcases k4 with rfl | hk
      · rw [Nat.sub_self, Nat.pow_zero, Nat.mul_one] at hprod
        have hc : Coprime x.1 l' := by rw [hprod]; exact Coprime.mul_right (h.cop x (by simp)) g3
        have := hc.eq_one_of_dvd hpl
        omega
      · exact hk hbad
theorem downs_spec {d den N : Nat} (hd : 0 < d) (hden : 1 < den) : ∀ (r : List (Nat × Nat)) (l m : Nat) (tried : Nat → Prop), GoodF r → DownAt d den N l m tried r → ∃ m', DownAt d den N (downs d den r l) m' (fun p => tried p ∨ ∃ x ∈ r, p = x.1) [] := by
  intro r
  induction r with
  | nil =>
    intro l m tried _ h
    exact ⟨m, h.pos, h.dv, h.one, h.prod, h.cop, fun p hp => h.done p (by rcases hp with hp | ⟨x, hx, _⟩; exact hp; cases hx)⟩
  | cons x r ih =>
    intro l m tried hg h
    obtain ⟨m1, h1⟩ := h.step hd hden hg
    obtain ⟨m2, h2⟩ := ih _ m1 _ hg.2.2.2 h1
    refine ⟨m2, h2.pos, h2.dv, h2.one, h2.prod, h2.cop, fun p hp => h2.done p ?_⟩
    rcases hp with hp | ⟨y, hy, rfl⟩
    · exact .inl (.inl hp)
    · rcases List.mem_cons.1 hy with rfl | hy
      · exact .inl (.inr rfl)
      · exact .inr ⟨y, hy, rfl⟩
theorem least_of (P : Nat → Prop) : ∀ n, P n → ∃ k, P k ∧ ∀ j, P j → k ≤ j := by
  intro n
  induction n using Nat.strongRecOn with
  | _ n ih =>
    intro hn
    by_cases h : ∃ j, j < n ∧ P j
    · obtain ⟨j, h1, h2⟩ := h
      exact ih j h1 h2
    · exact ⟨n, hn, fun j hj => Nat.le_of_not_lt fun hlt => h ⟨j, hlt, hj⟩⟩
theorem order_spec {d den N : Nat} (hd : 0 < d) (hden : 1 < den) (hN : 0 < N) (h1 : den ∣ d ^ N - 1) : IsOrd den d (downs d den (facs N) N) := by
  obtain ⟨f1, f2⟩ := facs_spec N hN
  obtain ⟨m, h⟩ := downs_spec (N := N) hd hden (facs N) N 1 (fun _ => False) f2 ⟨hN, Nat.dvd_refl _, h1, by rw [f1, Nat.one_mul], fun _ _ => Nat.coprime_one_right _, fun _ h => h.elim⟩
  generalize downs d den (facs N) N = l at *
  obtain ⟨L, ⟨L1, L2⟩, L3⟩ := least_of (fun k => 0 < k ∧ den ∣ d ^ k - 1) l ⟨h.pos, h.one⟩
  have hL : IsOrd den d L := ⟨L1, L2, fun k k1 k2 => L3 k ⟨k1, k2⟩⟩
  obtain ⟨q, hq⟩ := (hL.iff hd l).1 h.one
  have hlp := h.pos
  by_cases hq1 : q = 1
  · rw [hq1, Nat.mul_one] at hq
    rw [hq]; exact hL
  · exfalso
    have hq2 : 1 < q := by
      rcases Nat.eq_zero_or_pos q with e | e
      · rw [e, Nat.mul_zero] at hq; omega
      · omega
    have hqN : q ∣ prodF (facs N) := by
      rw [f1]; exact Nat.dvd_trans (by rw [hq]; exact Nat.dvd_mul_left _ _) h.dv
    obtain ⟨x, hx, hxq⟩ := has_prime hq2 _ f2 hqN
    have hpl : x.1 ∣ l := by rw [hq]; exact Nat.dvd_mul_left_of_dvd hxq _
    refine h.done x.1 (.inr ⟨x, hx, rfl⟩) hpl ?_
    have e : l / x.1 = L * (q / x.1) := by rw [hq, Nat.mul_div_assoc _ hxq]
    rw [e]
    exact dvd_pow_mul _ hd L2
/-- The exponent by the primes is one at which the power is 1. -/
theorem phi_pow {d K : Nat} (hd : 0 < d) : ∀ l, GoodF l → Coprime d (prodF l) → phiF l ∣ K → (∀ x ∈ l, x.1 ^ x.2 ∣ d ^ (x.1 ^ (x.2 - 1) * (x.1 - 1)) - 1) → prodF l ∣ d ^ K - 1 := by
  intro l
  induction l with
  | nil => intro _ _ _ _; exact Nat.one_dvd _
  | cons x r ih =>
    rintro ⟨g1, g2, g3, g4⟩ hc ⟨M, hM⟩ hf
    have hx : x.1 ^ x.2 ∣ d ^ K - 1 := by
      have e : K = x.1 ^ (x.2 - 1) * (x.1 - 1) * (phiF r * M) := by rw [hM]; show _ * _ * M = _; ac_rfl
      rw [e]
      exact dvd_pow_mul _ hd (hf x (by simp))
    have hr : prodF r ∣ d ^ K - 1 := by
      refine ih g4 (Coprime.coprime_mul_left_right hc) ?_ (fun y hy => hf y (by simp [hy]))
      rw [hM]
      exact Nat.dvd_mul_right_of_dvd (Nat.dvd_mul_left _ _) _
    exact Coprime.mul_dvd_of_dvd_of_dvd (Coprime.pow_left _ g3) hx hr
theorem phiF_pos : ∀ l, GoodF l → 0 < phiF l := by
  intro l
  induction l with
  | nil => intro _; show 0 < 1; omega
  | cons x r ih =>
    rintro ⟨g1, g2, g3, g4⟩
    have := g1.1
    exact Nat.mul_pos (Nat.mul_pos (Nat.pow_pos (by omega)) (by omega)) (ih g4)
end Go.Proofs.Ytacpakmglmfgnaa
