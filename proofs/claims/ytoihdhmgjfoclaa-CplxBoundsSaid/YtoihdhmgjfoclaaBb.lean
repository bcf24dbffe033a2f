/-
  The bounds of a magnitude: what Hi and Lo give lies outside and near.
-/
import Derived.Test.YtoihdhmgjfoclaaBa
import Derived.Test.YtoihdhmgjfoclaaBp
import Derived.Test.YtoihdhmgjfoclaaWc
namespace Go.Proofs.Ytoihdhmgjfoclaa
open Ieee

theorem iR_pos : 0 < iR := by unfold iR; omega
theorem rd_fl {n d R : Nat} (h : Rd n d R) : R - 1 < iR ∧ R ≤ iR ∧ vD (R - 1) * d ≤ n ∧ (n < vD iR * d → n < vD (R - 1 + 2) * d) := by
  obtain ⟨K, hR, h1, h2⟩ := h
  have hp := iR_pos
  have hle : R ≤ iR := by rcases hR with rfl | rfl <;> exact Nat.min_le_right ..
  have hK : R - 1 ≤ K := by rcases hR with rfl | rfl <;> omega
  refine ⟨by omega, hle, Nat.le_trans (Nat.mul_le_mul_right d (vD_le hK)) h1, fun hn => ?_⟩
  have hKi : K < iR := vD_lt_iff.1 (Nat.lt_of_mul_lt_mul_right (a := d) (by omega))
  exact Nat.lt_of_lt_of_le h2 (Nat.mul_le_mul_right d (vD_le (by rcases hR with rfl | rfl <;> omega)))
theorem rs_fl {n R : Nat} (h : Rs n R) : R - 1 < iR ∧ R ≤ iR ∧ vD (R - 1) * vD (R - 1) ≤ n ∧ (n < vD iR * vD iR → n < vD (R - 1 + 2) * vD (R - 1 + 2)) := by
  obtain ⟨K, hR, h1, h2⟩ := h
  have hp := iR_pos
  have hle : R ≤ iR := by rcases hR with rfl | rfl <;> exact Nat.min_le_right ..
  have hK : R - 1 ≤ K := by rcases hR with rfl | rfl <;> omega
  refine ⟨by omega, hle, Nat.le_trans (sq_le (vD_le hK)) h1, fun hn => ?_⟩
  have hKi : K < iR := vD_lt_iff.1 (lt_of_sq (by omega))
  exact Nat.lt_of_lt_of_le h2 (sq_le (vD_le (by rcases hR with rfl | rfl <;> omega)))
theorem rd_up {n d R : Nat} (h : Rd n d R) : R ≤ iR ∧ ∃ K, vD K * d ≤ n ∧ n < vD (K + 1) * d ∧ min (R + 1) iR ≤ K + 2 ∧ (min (R + 1) iR = iR ∨ n < vD (min (R + 1) iR) * d) := by
  obtain ⟨K, hR, h1, h2⟩ := h
  refine ⟨by rcases hR with rfl | rfl <;> exact Nat.min_le_right .., K, h1, h2, by rcases hR with rfl | rfl <;> omega, ?_⟩
  by_cases hi : min (R + 1) iR = iR
  · exact .inl hi
  · refine .inr (Nat.lt_of_lt_of_le h2 (Nat.mul_le_mul_right d (vD_le ?_)))
    rcases hR with rfl | rfl <;> omega
theorem rs_up {n R : Nat} (h : Rs n R) : R ≤ iR ∧ ∃ K, vD K * vD K ≤ n ∧ n < vD (K + 1) * vD (K + 1) ∧ min (R + 1) iR ≤ K + 2 ∧ (min (R + 1) iR = iR ∨ n < vD (min (R + 1) iR) * vD (min (R + 1) iR)) := by
  obtain ⟨K, hR, h1, h2⟩ := h
  refine ⟨by rcases hR with rfl | rfl <;> exact Nat.min_le_right .., K, h1, h2, by rcases hR with rfl | rfl <;> omega, ?_⟩
  by_cases hi : min (R + 1) iR = iR
  · exact .inl hi
  · refine .inr (Nat.lt_of_lt_of_le h2 (sq_le (vD_le ?_)))
    rcases hR with rfl | rfl <;> omega

theorem isN_rung {x : Nat} (h : x ≤ iR) : isN x = false := by unfold isN; unfold iR at h; simp; omega
theorem flW_rung {x : Nat} (h : x ≤ iR) : flW x = x - 1 := by
  have hn := isN_rung h
  unfold iR at h
  have hd : dnW x = if x = 0 then 9223372036854775809 else x - 1 := by
    unfold dnW
    rw [hn, if_neg (by decide), ltF_low x (by omega), if_neg (by simp; omega)]
    by_cases h0 : x = 0
    · rw [if_pos h0, h0]; rfl
    · have he : eqF x 0 = false := by
        unfold eqF; rw [key_zero, key_pos (by omega)]; simp; first | done | omega
      rw [he, if_neg (by decide), if_neg (by omega), if_neg h0]
  unfold flW
  rw [hd]
  by_cases h0 : x = 0
  · rw [if_pos h0, h0]; rfl
  · rw [if_neg h0]
    have hl : ltF (x - 1) 0 = false := by
      unfold ltF; rw [key_zero, key_pos (by omega)]; simp; first | done | omega
    rw [hl, if_neg (by decide)]
theorem upW_rung {x : Nat} (h : x ≤ iR) : upW x = min (x + 1) iR := by
  have hn := isN_rung h
  unfold iR at h
  unfold upW
  rw [hn, if_neg (by decide), ltF_max x (by omega)]
  unfold iR
  by_cases hi : x = 9218868437227405312
  · rw [if_pos (by simpa using hi)]; omega
  · rw [if_neg (by simpa using hi)]
    by_cases h0 : x = 0
    · rw [h0]; rfl
    · have he : eqF x 0 = false := by
        unfold eqF; rw [key_zero, key_pos (by omega)]; simp; omega
      rw [he, if_neg (by decide), if_neg (by omega)]; omega

theorem vD_dbl (x : Nat) (h : cA ≤ x) : vD (x + cA) = 2 * vD x := by
  obtain ⟨e, low, rfl, c1, c2⟩ := rung_cut double x
  have hb : double.binade = cA := by decide
  rw [hb] at c1 c2
  have hlow : cA ≤ low := by
    rcases Nat.eq_zero_or_pos e with he | he
    · rw [he] at h; omega
    · exact c2 he
  have v1 : vD (e * double.binade + low) = low * 2 ^ e := valF_mk double e low (by rw [hb]; exact c1) (by rw [hb]; exact c2)
  have v2 : vD ((e + 1) * double.binade + low) = low * 2 ^ (e + 1) := valF_mk double (e + 1) low (by rw [hb]; exact c1) (by rw [hb]; exact fun _ => hlow)
  rw [v1, show e * double.binade + low + cA = (e + 1) * double.binade + low by rw [hb, Nat.add_mul]; omega, v2, Nat.pow_succ]
  ac_rfl
theorem vD_pow (e : Nat) : vD (e * cA + cA) = cA * 2 ^ e := by
  have hb : double.binade = cA := by decide
  have v1 : vD (e * double.binade + cA) = cA * 2 ^ e := valF_mk double e cA (by rw [hb]; unfold cA; omega) (by rw [hb]; exact fun _ => Nat.le_refl _)
  rw [← hb] at v1 ⊢
  exact v1
/-- One's rung. -/
def oR : Nat := 4607182418800017408
theorem vD_oR : vD oR = oneU := by
  obtain ⟨e, he⟩ : ∃ e, e = 1022 := ⟨_, rfl⟩
  have h := vD_pow e
  have e1 : e * cA + cA = oR := by rw [he]; rfl
  obtain ⟨E, hE, hU⟩ := oneU_eq
  rw [e1] at h
  have hc : cA = 2 ^ 52 := rfl
  have h2 : 52 + e = E := by omega
  rw [h, hU, hc, ← Nat.pow_add, h2]

/-- The rungs of the lower chain. -/
structure LoC (p q t w s r z : Nat) : Prop where
  tl : t ≤ oR
  wl : w ≤ oR
  sl : s < iR
  rl : r < iR
  zl : z < iR
  t1 : vD t * vD p ≤ vD q * oneU
  t2 : vD q * oneU < vD (t + 2) * vD p
  w1 : vD w * oneU ≤ vD t * vD t
  w2 : vD t * vD t < vD (w + 2) * oneU
  s1 : vD s ≤ oneU + vD w
  s2 : oneU + vD w < vD (s + 2)
  r1 : vD r * vD r ≤ vD s * oneU
  r2 : vD s * oneU < vD (r + 2) * vD (r + 2)
  z1 : vD z * oneU ≤ vD p * vD r
  z2 : vD p * vD r < vD iR * oneU → vD p * vD r < vD (z + 2) * oneU

theorem oR_lt : oR < iR := by unfold oR iR; omega
theorem cA_le : cA ≤ oR := by unfold cA oR; omega
theorem vD_inf : 16 * oneU < vD iR := by
  have h1 := vD_dbl oR cA_le
  have h2 := vD_dbl (oR + cA) (by have := cA_le; omega)
  have h3 := vD_dbl (oR + cA + cA) (by have := cA_le; omega)
  have h4 := vD_dbl (oR + cA + cA + cA) (by have := cA_le; omega)
  rw [vD_oR] at h1
  have h5 : vD (oR + cA + cA + cA + cA) < vD iR := vD_lt (by unfold oR cA iR; omega)
  omega

theorem lo_chain {p q : Nat} (hp : p < iR) (hq : 0 < q) (hqp : q ≤ p) : ∃ t w s r z, reachO flO (some p) (some q) = some z ∧ LoC p q t w s r z := by
  have hU := oneU_pos
  have hvi := vD_inf
  have hvp : 0 < vD p := by have := vD_lt (show 0 < p by omega); rw [vD_zero] at this; exact this
  have hQP : vD q ≤ vD p := vD_le hqp
  obtain ⟨R1, f1, d1⟩ := quo_rd (x := q) (y := p) (by omega) hp (by omega)
  obtain ⟨a1, a2, a3, a4⟩ := rd_fl d1
  have tn : vD q * oneU ≤ oneU * vD p := by rw [Nat.mul_comm]; exact Nat.mul_le_mul_left _ hQP
  have tl : R1 - 1 ≤ oR := by
    refine (valF_le_iff double).1 ?_
    show vD _ ≤ vD _
    rw [vD_oR]
    exact Nat.le_of_mul_le_mul_right (Nat.le_trans a3 tn) hvp
  have t2 := a4 (Nat.lt_of_le_of_lt tn (Nat.mul_lt_mul_of_pos_right (by omega) hvp))
  have e1 : flO (some R1) = some (R1 - 1) := by rw [← flW_rung a2]; rfl
  have htU : vD (R1 - 1) ≤ oneU := by rw [← vD_oR]; exact vD_le tl
  generalize R1 - 1 = t at *
  obtain ⟨R2, f2, d2⟩ := mul_rd (x := t) (y := t) (by have := oR_lt; omega) (by have := oR_lt; omega)
  obtain ⟨b1, b2, b3, b4⟩ := rd_fl d2
  have wn : vD t * vD t ≤ oneU * oneU := sq_le htU
  have wl : R2 - 1 ≤ oR := by
    refine (valF_le_iff double).1 ?_
    show vD _ ≤ vD _
    rw [vD_oR]
    exact Nat.le_of_mul_le_mul_right (Nat.le_trans b3 wn) hU
  have w2 := b4 (Nat.lt_of_le_of_lt wn (Nat.mul_lt_mul_of_pos_right (by omega) hU))
  have e2 : flO (some R2) = some (R2 - 1) := by rw [← flW_rung b2]; rfl
  have hwU : vD (R2 - 1) ≤ oneU := by rw [← vD_oR]; exact vD_le wl
  generalize R2 - 1 = w at *
  obtain ⟨R3, f3, d3⟩ := add_rd (x := oR) (y := w) oR_lt (by have := oR_lt; omega)
  obtain ⟨c1, c2, c3, c4⟩ := rd_fl d3
  rw [vD_oR, Nat.mul_one] at c3
  have s2 := c4 (by rw [vD_oR]; omega)
  rw [vD_oR, Nat.mul_one] at s2
  have e3 : flO (some R3) = some (R3 - 1) := by rw [← flW_rung c2]; rfl
  have s0 : 0 < R3 - 1 := by
    rcases Nat.eq_zero_or_pos (R3 - 1) with h | h
    · rw [h] at s2
      have : vD (0 + 2) ≤ oneU := by rw [← vD_oR]; exact vD_le (by unfold oR; omega)
      omega
    · exact h
  generalize R3 - 1 = s at *
  obtain ⟨R4, f4, d4⟩ := sqrt_rs (x := s) c1 s0
  obtain ⟨g1, g2, g3, g4⟩ := rs_fl d4
  have hsn : vD s * oneU < vD iR * vD iR := Nat.lt_of_le_of_lt (Nat.mul_le_mul_left _ (show oneU ≤ vD iR by omega)) (Nat.mul_lt_mul_of_pos_right (by omega) (by omega))
  have r2 := g4 hsn
  have e4 : flO (some R4) = some (R4 - 1) := by rw [← flW_rung g2]; rfl
  generalize R4 - 1 = r at *
  obtain ⟨R5, f5, d5⟩ := mul_rd (x := p) (y := r) hp g1
  obtain ⟨k1, k2, k3, k4⟩ := rd_fl d5
  have e5 : flO (some R5) = some (R5 - 1) := by rw [← flW_rung k2]; rfl
  have f4' : sqO (some s) = some R4 := f4
  have f3' : fo .add (some 4607182418800017408) (some w) = some R3 := f3
  refine ⟨t, w, s, r, R5 - 1, ?_, ⟨tl, wl, c1, g1, k1, a3, t2, b3, w2, c3, s2, g3, r2, k3, k4⟩⟩
  unfold reachO
  rw [f1, e1, f2, e2, f3', e3, f4', e4, f5, e5]

/-- The rungs of the upper chain. -/
structure HiC (p q t w s r z : Nat) : Prop where
  zl : z ≤ iR
  t1 : vD q * oneU < vD t * vD p
  t2 : vD t * vD p * (cA * cA) ≤ vD q * oneU * (cB * cB) + 2 * (cA * cA) * vD p
  w1 : vD t * vD t < vD w * oneU
  w2 : vD w * oneU * (cA * cA) ≤ vD t * vD t * (cB * cB) + 2 * (cA * cA) * oneU
  s1 : oneU + vD w < vD s
  s2 : vD s * (cA * cA) ≤ (oneU + vD w) * (cB * cB)
  r1 : vD s * oneU < vD r * vD r
  r2 : vD r * vD r * (cA * cA * (cA * cA)) ≤ vD s * oneU * (cB * cB * (cB * cB))
  z1 : z = iR ∨ vD p * vD r < vD z * oneU
  z2 : cA ≤ p → p + 4 * cA + 2 < iR → z < iR ∧ vD z * oneU * (cA * cA) ≤ vD p * vD r * (cB * cB)

/-- The powers of two behind one. -/
theorem vD_twos : vD (oR + cA) = 2 * oneU ∧ vD (oR + 2 * cA) = 4 * oneU ∧ vD (oR + 3 * cA) = 8 * oneU ∧ vD (oR + 4 * cA) = 16 * oneU ∧ vD (oR + 5 * cA) = 32 * oneU := by
  have h1 := vD_dbl oR cA_le
  have h2 := vD_dbl (oR + cA) (by have := cA_le; omega)
  have h3 := vD_dbl (oR + cA + cA) (by have := cA_le; omega)
  have h4 := vD_dbl (oR + cA + cA + cA) (by have := cA_le; omega)
  have h5 := vD_dbl (oR + cA + cA + cA + cA) (by have := cA_le; omega)
  rw [vD_oR] at h1
  have e2 : oR + 2 * cA = oR + cA + cA := by omega
  have e3 : oR + 3 * cA = oR + cA + cA + cA := by omega
  have e4 : oR + 4 * cA = oR + cA + cA + cA + cA := by omega
  have e5 : oR + 5 * cA = oR + cA + cA + cA + cA + cA := by omega
  rw [e2, e3, e4, e5]
  omega
theorem rung_le {K b : Nat} (h : vD K ≤ vD b) : K ≤ b := (valF_le_iff double).1 h
theorem big_cA : oR + 5 * cA + 2 < iR ∧ 4 ≤ cA := by unfold oR cA iR; omega

theorem up_two {K H n d : Nat} (hK : vD K * d ≤ n) (hH : H ≤ K + 2) : vD H * d * (cA * cA) ≤ n * (cB * cB) + 2 * (cA * cA) * d :=
  up_a hK (Nat.le_trans (Nat.mul_le_mul_right _ (vD_le hH)) (vD_two' K))
theorem up_two_big {K H n d : Nat} (hK : vD K * d ≤ n) (hH : H ≤ K + 2) (hb : cA ≤ K) : vD H * d * (cA * cA) ≤ n * (cB * cB) :=
  up_b hK (Nat.le_trans (Nat.mul_le_mul_right _ (vD_le hH)) (vD_two K hb))
theorem up_two_sq {K H n : Nat} (hK : vD K * vD K ≤ n) (hH : H ≤ K + 2) (hb : cA ≤ K) : vD H * vD H * (cA * cA * (cA * cA)) ≤ n * (cB * cB * (cB * cB)) :=
  up_s hK (Nat.le_trans (Nat.mul_le_mul_right _ (vD_le hH)) (vD_two K hb))

theorem two_mid (a b : Nat) : a * (2 * b) = 2 * a * b := by ac_rfl
theorem pn4 (a b : Nat) : a * (4 * b) = 4 * a * b := by ac_rfl
theorem pn_eq (a b : Nat) : a * (16 * b) = 16 * a * b := by ac_rfl
theorem hi_chain {p q : Nat} (hp : p < iR) (hq : 0 < q) (hqp : q ≤ p) : ∃ t w s r z, reachO upO (some p) (some q) = some z ∧ HiC p q t w s r z := by
  have hU := oneU_pos
  obtain ⟨v1, v2, v3, v4, v5⟩ := vD_twos
  obtain ⟨hb, hb4⟩ := big_cA
  have hvp : 0 < vD p := by have := vD_lt (show 0 < p by omega); rw [vD_zero] at this; exact this
  have hQP : vD q ≤ vD p := vD_le hqp
  obtain ⟨R1, f1, d1⟩ := quo_rd (x := q) (y := p) (by omega) hp (by omega)
  obtain ⟨a1, K1, a2, a3, a4, a5⟩ := rd_up d1
  have tn : vD q * oneU ≤ oneU * vD p := by rw [Nat.mul_comm]; exact Nat.mul_le_mul_left _ hQP
  have k1 : K1 ≤ oR := rung_le (by rw [vD_oR]; exact Nat.le_of_mul_le_mul_right (Nat.le_trans a2 tn) hvp)
  have e1 : upO (some R1) = some (min (R1 + 1) iR) := by rw [← upW_rung a1]; rfl
  have t2 := up_two a2 a4
  generalize min (R1 + 1) iR = t at *
  have htl : t ≤ oR + 2 := by omega
  have t1 := a5.resolve_left (by omega)
  have htU : vD t ≤ 2 * oneU := by rw [← v1]; exact vD_le (by omega)
  obtain ⟨R2, f2, d2⟩ := mul_rd (x := t) (y := t) (by omega) (by omega)
  obtain ⟨b1, K2, b2, b3, b4, b5⟩ := rd_up d2
  have wn : vD t * vD t ≤ 4 * oneU * oneU := Nat.le_trans (sq_le htU) (Nat.le_of_eq (two_sq _))
  have k2 : K2 ≤ oR + 2 * cA := rung_le (by rw [v2]; exact Nat.le_of_mul_le_mul_right (Nat.le_trans b2 wn) hU)
  have e2 : upO (some R2) = some (min (R2 + 1) iR) := by rw [← upW_rung b1]; rfl
  have w2 := up_two b2 b4
  generalize min (R2 + 1) iR = w at *
  have hwl : w ≤ oR + 2 * cA + 2 := by omega
  have w1 := b5.resolve_left (by omega)
  have hwU : vD w ≤ 8 * oneU := by rw [← v3]; exact vD_le (by omega)
  obtain ⟨R3, f3, d3⟩ := add_rd (x := oR) (y := w) oR_lt (by omega)
  obtain ⟨c1, K3, c2, c3, c4, c5⟩ := rd_up d3
  rw [vD_oR] at c2 c3 c5
  have k3 : K3 ≤ oR + 4 * cA := rung_le (by rw [v4]; omega)
  have l3 : oR ≤ K3 := by
    have : oR < K3 + 1 := vD_lt_iff.1 (by rw [vD_oR]; omega)
    omega
  have e3 : upO (some R3) = some (min (R3 + 1) iR) := by rw [← upW_rung c1]; rfl
  have s2 := up_two_big c2 c4 (by have := cA_le; omega)
  rw [Nat.mul_one] at s2
  generalize min (R3 + 1) iR = s at *
  have hsl : s ≤ oR + 4 * cA + 2 := by omega
  have s1 := c5.resolve_left (by omega)
  rw [Nat.mul_one] at s1
  have hsU : vD s ≤ 32 * oneU := by rw [← v5]; exact vD_le (by omega)
  have s0 : 0 < s := by
    rcases Nat.eq_zero_or_pos s with h | h
    · rw [h, vD_zero] at s1; omega
    · exact h
  obtain ⟨R4, f4, d4⟩ := sqrt_rs (x := s) (by omega) s0
  obtain ⟨g1, K4, g2, g3, g4, g5⟩ := rs_up d4
  have rn : vD s * oneU ≤ 8 * oneU * (8 * oneU) := by
    have : vD s * oneU ≤ 64 * oneU * oneU := Nat.mul_le_mul_right _ (by omega)
    exact Nat.le_trans this (Nat.le_of_eq (eight_sq _).symm)
  have k4 : K4 ≤ oR + 3 * cA := rung_le (by rw [v3]; exact le_of_sq (Nat.le_trans g2 rn))
  have l4 : oR ≤ K4 := by
    have h1 : oneU * oneU < vD (K4 + 1) * vD (K4 + 1) := Nat.lt_of_le_of_lt (Nat.mul_le_mul_right _ (show oneU ≤ vD s by omega)) g3
    have : oR < K4 + 1 := vD_lt_iff.1 (by rw [vD_oR]; exact lt_of_sq h1)
    omega
  have e4 : upO (some R4) = some (min (R4 + 1) iR) := by rw [← upW_rung g1]; rfl
  have r2 := up_two_sq g2 g4 (by have := cA_le; omega)
  generalize min (R4 + 1) iR = r at *
  have hrl : r ≤ oR + 3 * cA + 2 := by omega
  have r1 := g5.resolve_left (by omega)
  have hrU : vD r ≤ 16 * oneU := by rw [← v4]; exact vD_le (by omega)
  have hrL : oneU < vD r := by
    refine lt_of_sq (Nat.lt_of_le_of_lt (Nat.mul_le_mul_right _ (show oneU ≤ vD s by omega)) r1)
  obtain ⟨R5, f5, d5⟩ := mul_rd (x := p) (y := r) hp (by omega)
  obtain ⟨m1, K5, m2, m3, m4, m5⟩ := rd_up d5
  have e5 : upO (some R5) = some (min (R5 + 1) iR) := by rw [← upW_rung m1]; rfl
  have f4' : sqO (some s) = some R4 := f4
  have f3' : fo .add (some 4607182418800017408) (some w) = some R3 := f3
  refine ⟨t, w, s, r, min (R5 + 1) iR, ?_, ⟨Nat.min_le_right .., t1, t2, w1, w2, s1, s2, r1, r2, m5, fun hc hf => ?_⟩⟩
  · unfold reachO
    rw [f1, e1, f2, e2, f3', e3, f4', e4, f5, e5]
  · have hd1 := vD_dbl p hc
    have hd2 := vD_dbl (p + cA) (by omega)
    have hd3 := vD_dbl (p + cA + cA) (by omega)
    have hd4 := vD_dbl (p + cA + cA + cA) (by omega)
    have hd : vD (p + 4 * cA) = 16 * vD p := by
      rw [show p + 4 * cA = p + cA + cA + cA + cA by omega]; omega
    have pn : vD p * vD r ≤ 16 * vD p * oneU := Nat.le_trans (Nat.mul_le_mul_left _ hrU) (Nat.le_of_eq (pn_eq _ _))
    have k5 : K5 ≤ p + 4 * cA := rung_le (by rw [hd]; exact Nat.le_of_mul_le_mul_right (Nat.le_trans m2 pn) hU)
    have l5 : p ≤ K5 := by
      have h1 : vD p * oneU < vD (K5 + 1) * oneU := Nat.lt_of_le_of_lt (Nat.mul_le_mul_left _ (Nat.le_of_lt hrL)) m3
      have : p < K5 + 1 := vD_lt_iff.1 (Nat.lt_of_mul_lt_mul_right h1)
      omega
    exact ⟨Nat.lt_of_le_of_lt m4 (Nat.lt_of_le_of_lt (Nat.add_le_add_right k5 2) hf), up_two_big m2 m4 (Nat.le_trans hc l5)⟩

/-! ### what follows -/
theorem cd_ok : Cd (cA * cA) (cB * cB) (cA + cB) oneU := by
  refine ⟨?_, ?_, ?_, ?_⟩
  · decide +kernel
  · decide +kernel
  · decide +kernel
  · obtain ⟨E, hE, hU⟩ := oneU_eq
    have h1 : 4 * (cA * cA) * (cB * cB) * (cB * cB) + 4 * (cB * cB) * (cA * cA) * (cA * cA) + 4 * (cA * cA) * (cA * cA) * (cA * cA) ≤ 2 ^ 200 * 2 ^ 200 := by decide +kernel
    have h2 : ∀ k, k = 200 → 2 ^ k * 2 ^ k ≤ 2 ^ E := fun k hk => by
      rw [← Nat.pow_add]
      exact Nat.pow_le_pow_right (by omega) (by omega)
    rw [hU]
    exact Nat.le_trans h1 (h2 200 rfl)
/-- THE LOWER BOUND. -/
theorem lo_below {p q t w s r z : Nat} (h : LoC p q t w s r z) : vD z * vD z ≤ vD p * vD p + vD q * vD q :=
  low_sound oneU_pos h.t1 h.w1 h.s1 h.r1 h.z1
/-- THE UPPER BOUND. -/
theorem hi_above {p q t w s r z : Nat} (h : HiC p q t w s r z) (hz : z < iR) : vD p * vD p + vD q * vD q ≤ vD z * vD z :=
  high_sound oneU_pos (Nat.le_of_lt h.t1) (Nat.le_of_lt h.w1) (Nat.le_of_lt h.s1) (Nat.le_of_lt h.r1) (Nat.le_of_lt (h.z1.resolve_left (by omega)))
theorem lo_near {p q t w s r z : Nat} (h : LoC p q t w s r z) (hp : 5 * cA ≤ p) (hp2 : p + 4 * cA + 2 < iR) :
    (vD p * vD p + vD q * vD q) * (cA * cA * (cA * cA) * (cA * cA) * (cA * cA) * (cA * cA) * (cA * cA) * (cA * cA)) ≤ vD z * vD z * (cB * cB * (cB * cB) * (cB * cB) * (cB * cB) * (cB * cB) * (cB * cB) * (cB * cB)) := by
  have hU := oneU_pos
  obtain ⟨hb, hb4⟩ := big_cA
  have hoA : 5 * cA ≤ oR := by unfold cA oR; omega
  have hwU : vD w ≤ oneU := by rw [← vD_oR]; exact vD_le h.wl
  have htU : vD t ≤ oneU := by rw [← vD_oR]; exact vD_le h.tl
  have ls : oR < s + 2 := vD_lt_iff.1 (by rw [vD_oR]; exact Nat.lt_of_le_of_lt (Nat.le_add_right _ _) h.s2)
  have vh : vD (oR - cA + cA) = 2 * vD (oR - cA) := vD_dbl _ (by omega)
  have vq : vD (oR - 2 * cA + cA) = 2 * vD (oR - 2 * cA) := vD_dbl _ (by omega)
  rw [show oR - cA + cA = oR by omega, vD_oR] at vh
  rw [show oR - 2 * cA + cA = oR - cA by omega] at vq
  have hsh : vD (oR - cA) ≤ vD s := vD_le (by omega)
  have lr : oR - cA < r + 2 := by
    refine vD_lt_iff.1 (lt_of_sq (Nat.lt_of_le_of_lt ?_ h.r2))
    exact Nat.mul_le_mul hsh (by omega)
  have hrq : vD (oR - 2 * cA) ≤ vD r := vD_le (by omega)
  have hr2 : vD r ≤ 2 * oneU := by
    refine le_of_sq (Nat.le_trans h.r1 ?_)
    rw [two_sq]
    exact Nat.mul_le_mul_right _ (by have := h.s1; omega)
  have hp2x : vD (p + cA) = 2 * vD p := vD_dbl p (by omega)
  have hpi : vD (p + cA) < vD iR := vD_lt (by omega)
  have z2 := h.z2 (Nat.lt_of_le_of_lt (Nat.mul_le_mul_left _ hr2) (by rw [two_mid]; exact Nat.mul_lt_mul_of_pos_right (by omega) hU))
  have d1 := vD_dbl cA (Nat.le_refl _)
  have d2 := vD_dbl (cA + cA) (by omega)
  have d3 := vD_dbl (cA + cA + cA) (by omega)
  have d4 := vD_dbl (cA + cA + cA + cA) (by omega)
  have hpl : vD (cA + cA + cA + cA + cA) ≤ vD p := vD_le (by omega)
  have lz : cA + cA + cA < z + 2 := by
    refine vD_lt_iff.1 ?_
    have e : vD p * vD (oR - 2 * cA) < 4 * vD (z + 2) * vD (oR - 2 * cA) := by
      refine Nat.lt_of_le_of_lt (Nat.mul_le_mul_left _ hrq) (Nat.lt_of_lt_of_le z2 (Nat.le_of_eq ?_))
      rw [show oneU = 4 * vD (oR - 2 * cA) by omega, pn4]
    have := Nat.lt_of_mul_lt_mul_right e
    omega
  have h3 := dn_b (d := 1) (n := oneU + vD w) (by rw [Nat.mul_one]; exact Nat.le_of_lt h.s2) (vD_two s (by omega))
  rw [Nat.mul_one] at h3
  exact low_chain cd_ok (dn_a (Nat.le_of_lt h.t2) (vD_two' t)) (dn_a (Nat.le_of_lt h.w2) (vD_two' w)) h3 (dn_s (Nat.le_of_lt h.r2) (vD_two r (by omega))) (dn_b (Nat.le_of_lt z2) (vD_two z (by omega))) hwU htU hU
theorem hi_near {p q t w s r z : Nat} (h : HiC p q t w s r z) (hqp : q ≤ p) (hp : 5 * cA ≤ p) (hp2 : p + 4 * cA + 2 < iR) :
    z < iR ∧ vD z * vD z * (cA * cA * (cA * cA) * (cA * cA) * (cA * cA) * (cA * cA) * (cA * cA) * (cA * cA)) ≤ (vD p * vD p + vD q * vD q) * (cB * cB * (cB * cB) * (cB * cB) * (cB * cB) * (cB * cB) * (cB * cB) * (cB * cB)) := by
  obtain ⟨hz, z2⟩ := h.z2 (by omega) hp2
  exact ⟨hz, high_chain cd_ok h.t2 h.w2 h.s2 h.r2 z2 (vD_le hqp) oneU_pos⟩
theorem both_near {p q t w s r z t' w' s' r' z' : Nat} (h : LoC p q t w s r z) (h' : HiC p q t' w' s' r' z') (hqp : q ≤ p) (hp : 5 * cA ≤ p) (hp2 : p + 4 * cA + 2 < iR) :
    z' < iR ∧ vD z' * 281474976710656 ≤ vD z * 281474976710657 := by
  obtain ⟨hz, h2⟩ := hi_near h' hqp hp hp2
  exact ⟨hz, near_of (by decide +kernel) h2 (lo_near h hp hp2) _ _ (by decide +kernel)⟩
#print axioms both_near
end Go.Proofs.Ytoihdhmgjfoclaa
