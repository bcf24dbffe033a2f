/-
  What 'nearest' gives: the rung below or the rung above what is written; just the rung where it is one.
-/
import Ieee.Arith
namespace Go.Proofs.Ytoihdhmgjfoclaa
open Ieee

/-- A rung's magnitude in units of the least number of the format. -/
def valF (f : Format) (r : Nat) : Nat := if r < f.binade then r else (f.binade + r % f.binade) * 2 ^ (r / f.binade - 1)

theorem binade_pos (f : Format) : 0 < f.binade := Nat.two_pow_pos _

theorem valF_mk (f : Format) (e low : Nat) (h : low < 2 * f.binade) (h0 : 0 < e → f.binade ≤ low) : valF f (e * f.binade + low) = low * 2 ^ e := by
  have hB := binade_pos f
  unfold valF
  generalize f.binade = B at *
  by_cases hl : low < B
  · have he : e = 0 := by
      rcases Nat.eq_zero_or_pos e with he | he
      · exact he
      · have := h0 he; omega
    subst he
    rw [Nat.zero_mul, Nat.zero_add, if_pos hl]; simp
  · have e1 : (e * B + low) / B = e + 1 := by
      rw [Nat.mul_comm, Nat.mul_add_div hB]
      congr 1
      exact Nat.div_eq_of_lt_le (by omega) (by omega)
    have e2 : (e * B + low) % B = low - B := by
      rw [Nat.mul_comm, Nat.mul_add_mod]
      rw [Nat.mod_eq_sub_mod (by omega), Nat.mod_eq_of_lt (by omega)]
    have e3 : ¬ e * B + low < B := by omega
    rw [if_neg e3, e1, e2, Nat.add_sub_cancel]
    congr 1
    omega

theorem valF_mk_succ (f : Format) (e low : Nat) (h : low < 2 * f.binade) (h0 : 0 < e → f.binade ≤ low) : valF f (e * f.binade + low + 1) = (low + 1) * 2 ^ e := by
  by_cases hl : low + 1 < 2 * f.binade
  · rw [Nat.add_assoc, valF_mk f e (low + 1) hl (fun he => by have := h0 he; omega)]
  · have e1 : low + 1 = 2 * f.binade := by omega
    have e2 : e * f.binade + low + 1 = (e + 1) * f.binade + f.binade := by rw [Nat.add_mul]; omega
    rw [e2, valF_mk f (e + 1) f.binade (by have := binade_pos f; omega) (fun _ => Nat.le_refl _), e1, Nat.pow_succ]
    rw [Nat.mul_comm 2 f.binade, Nat.mul_assoc, Nat.mul_comm 2]

theorem cut_even (neg : Bool) (n drop : Nat) : ∃ more, more ≤ 1 ∧ Toward.even.cut neg n drop = n / 2 ^ drop + more ∧ (n % 2 ^ drop = 0 → more = 0) := by
  unfold Toward.cut
  simp only [Nat.one_shiftLeft]
  by_cases hd : drop ≤ n.log2 + 2
  · rw [Nat.min_eq_left hd]
    refine ⟨_, Bool.toNat_le _, rfl, fun hr => ?_⟩
    rw [hr]
    have : ¬ 2 ^ drop < 2 * 0 := by omega
    have h2 : ((2 ^ drop == 2 * 0) : Bool) = false := by
      have := Nat.two_pow_pos drop
      simp
    simp [h2]
  · rw [Nat.min_eq_right (by omega)]
    have hn : n < 2 ^ (n.log2 + 1) := Nat.lt_log2_self
    have hn2 : 2 ^ (n.log2 + 2) = 2 * 2 ^ (n.log2 + 1) := by rw [Nat.pow_succ]; omega
    have hle : 2 ^ (n.log2 + 2) ≤ 2 ^ drop := Nat.pow_le_pow_right (by omega) (by omega)
    have e1 : n / 2 ^ (n.log2 + 2) = 0 := Nat.div_eq_of_lt (by omega)
    have e2 : n / 2 ^ drop = 0 := Nat.div_eq_of_lt (by omega)
    have e3 : n % 2 ^ (n.log2 + 2) = n := Nat.mod_eq_of_lt (by omega)
    refine ⟨0, by omega, ?_, fun _ => rfl⟩
    rw [e1, e2, e3]
    have h1 : decide (2 ^ (n.log2 + 2) < 2 * n) = false := by simp; omega
    have h2 : ((2 ^ (n.log2 + 2) == 2 * n) : Bool) = false := by simp; omega
    simp [h1, h2]

theorem log2_bd {m : Nat} (hm : m ≠ 0) : 2 ^ m.log2 ≤ m ∧ m < 2 ^ (m.log2 + 1) := ⟨Nat.log2_self_le hm, Nat.lt_log2_self⟩

/-- WHAT 'nearest' GIVES: R is the rung K below m * 2^p or the one above; it is K where m * 2^p is K's magnitude. -/
theorem nearest_floor (f : Format) (neg : Bool) (m : Nat) (p : Int) (hm : m ≠ 0) :
    ∃ K R, f.nearest neg m p = f.word neg (min R f.infRung) ∧ (R = K ∨ R = K + 1) ∧
      ∀ i j : Nat, p - f.leastPlace = (i : Int) - j → valF f K * 2 ^ j ≤ m * 2 ^ i ∧ m * 2 ^ i < valF f (K + 1) * 2 ^ j ∧ (m * 2 ^ i = valF f K * 2 ^ j → R = K) := by
  obtain ⟨hl1, hl2⟩ := log2_bd hm
  have hB : f.binade = 2 ^ f.fractionBits := rfl
  have hB2 : 2 * f.binade = 2 ^ (f.fractionBits + 1) := by rw [hB, Nat.pow_succ]; omega
  unfold Format.nearest
  rw [if_neg hm]
  simp only []
  generalize m.log2 = l at *
  generalize f.fractionBits = F at *
  generalize f.leastPlace = L at *
  generalize hlast : max (p + (l : Int) - F) L = last
  obtain ⟨e, he⟩ : ∃ e : Nat, last = L + e := ⟨(last - L).toNat, by omega⟩
  have heN : (last - L).toNat = e := by omega
  rw [heN]
  -- the whole part kept, and how it stands
  have cond : ∀ low : Nat, (∀ t : Nat, p = last + t → low = m * 2 ^ t) → (∀ t : Nat, p + t = last → low = m / 2 ^ t) → low < 2 * f.binade ∧ (0 < e → f.binade ≤ low) := by
    intro low ha hb
    rw [hB2, hB]
    by_cases hp : last ≤ p
    · obtain ⟨t, ht⟩ : ∃ t : Nat, p = last + t := ⟨(p - last).toNat, by omega⟩
      rw [ha t ht]
      constructor
      · have : l + 1 + t ≤ F + 1 := by omega
        calc m * 2 ^ t < 2 ^ (l + 1) * 2 ^ t := Nat.mul_lt_mul_of_pos_right hl2 (Nat.two_pow_pos _)
          _ = 2 ^ (l + 1 + t) := (Nat.pow_add ..).symm
          _ ≤ _ := Nat.pow_le_pow_right (by omega) this
      · intro he0
        have : l + t = F := by omega
        calc 2 ^ F = 2 ^ l * 2 ^ t := by rw [← Nat.pow_add, this]
          _ ≤ _ := Nat.mul_le_mul_right _ hl1
    · obtain ⟨t, ht⟩ : ∃ t : Nat, p + t = last := ⟨(last - p).toNat, by omega⟩
      rw [hb t ht]
      constructor
      · rw [Nat.div_lt_iff_lt_mul (Nat.two_pow_pos _), ← Nat.pow_add]
        exact Nat.lt_of_lt_of_le hl2 (Nat.pow_le_pow_right (by omega) (by omega))
      · intro he0
        rw [Nat.le_div_iff_mul_le (Nat.two_pow_pos _), ← Nat.pow_add]
        have : F + t = l := by omega
        rw [this]; exact hl1
  by_cases hp : last ≤ p
  · obtain ⟨t, ht⟩ : ∃ t : Nat, p = last + t := ⟨(p - last).toNat, by omega⟩
    have h1 : (p - last).toNat = t := by omega
    have h2 : (last - p).toNat = 0 := by omega
    rw [h1, h2]
    obtain ⟨more, _, hc, hz⟩ := cut_even neg (m <<< t) 0
    have hmore : more = 0 := hz (by rw [Nat.pow_zero, Nat.mod_one])
    subst hmore
    rw [hc, Nat.pow_zero, Nat.div_one, Nat.add_zero, Nat.shiftLeft_eq]
    obtain ⟨c1, c2⟩ := cond (m * 2 ^ t) (by
        intro t' h'
        have e : t' = t := by omega
        rw [e]) (fun t' h' => by
        have : t = 0 ∧ t' = 0 := by omega
        rw [this.1, this.2]; simp)
    refine ⟨e * f.binade + m * 2 ^ t, _, rfl, .inl rfl, fun i j hij => ?_⟩
    have hi : i = t + e + j := by omega
    rw [valF_mk f e _ c1 c2, valF_mk_succ f e _ c1 c2, hi, Nat.pow_add, Nat.pow_add, ← Nat.mul_assoc, ← Nat.mul_assoc]
    refine ⟨Nat.le_refl _, ?_, fun _ => rfl⟩
    exact Nat.mul_lt_mul_of_pos_right (Nat.mul_lt_mul_of_pos_right (by omega) (Nat.two_pow_pos _)) (Nat.two_pow_pos _)
  · obtain ⟨t, ht⟩ : ∃ t : Nat, p + t = last := ⟨(last - p).toNat, by omega⟩
    have h1 : (p - last).toNat = 0 := by omega
    have h2 : (last - p).toNat = t := by omega
    rw [h1, h2, Nat.shiftLeft_zero]
    obtain ⟨more, hm1, hc, hz⟩ := cut_even neg m t
    rw [hc]
    obtain ⟨c1, c2⟩ := cond (m / 2 ^ t) (fun t' h' => by omega) (by
        intro t' h'
        have e : t' = t := by omega
        rw [e])
    refine ⟨e * f.binade + m / 2 ^ t, e * f.binade + (m / 2 ^ t + more), rfl, by omega, fun i j hij => ?_⟩
    have hi : i + t = e + j := by omega
    have hpow : ∀ a : Nat, a * 2 ^ e * 2 ^ j = a * 2 ^ t * 2 ^ i := by
      intro a
      rw [Nat.mul_assoc, ← Nat.pow_add, ← hi, Nat.pow_add, Nat.mul_comm (2 ^ i), ← Nat.mul_assoc]
    have hdiv := Nat.div_add_mod m (2 ^ t)
    have hmod := Nat.mod_lt m (Nat.two_pow_pos t)
    rw [valF_mk f e _ c1 c2, valF_mk_succ f e _ c1 c2, hpow, hpow]
    have hcm : 2 ^ t * (m / 2 ^ t) = m / 2 ^ t * 2 ^ t := Nat.mul_comm ..
    refine ⟨Nat.mul_le_mul_right _ (by omega), Nat.mul_lt_mul_of_pos_right (by rw [Nat.add_mul]; omega) (Nat.two_pow_pos _), fun he => ?_⟩
    have := Nat.eq_of_mul_eq_mul_right (Nat.two_pow_pos i) he
    have := hz (by omega)
    omega
theorem rung_cut (f : Format) (r : Nat) : ∃ e low, r = e * f.binade + low ∧ low < 2 * f.binade ∧ (0 < e → f.binade ≤ low) := by
  have hB := binade_pos f
  by_cases h : r < f.binade
  · exact ⟨0, r, by simp, by omega, fun h => by omega⟩
  · have h1 := Nat.div_add_mod r f.binade
    have h2 := Nat.mod_lt r hB
    have h3 : 0 < r / f.binade := Nat.div_pos (by omega) hB
    refine ⟨r / f.binade - 1, f.binade + r % f.binade, ?_, by omega, fun _ => by omega⟩
    rw [Nat.mul_comm, ← Nat.add_assoc, ← Nat.mul_succ, show (r / f.binade - 1).succ = r / f.binade by omega]
    omega

theorem valF_succ (f : Format) (r : Nat) : valF f r < valF f (r + 1) := by
  obtain ⟨e, low, rfl, h1, h2⟩ := rung_cut f r
  rw [valF_mk f e low h1 h2, valF_mk_succ f e low h1 h2]
  exact Nat.mul_lt_mul_of_pos_right (by omega) (Nat.two_pow_pos _)
theorem valF_lt (f : Format) {r s : Nat} (h : r < s) : valF f r < valF f s := by
  induction s with
  | zero => omega
  | succ s ih =>
    rcases Nat.lt_or_eq_of_le (Nat.le_of_lt_succ h) with h' | rfl
    · exact Nat.lt_trans (ih h') (valF_succ f s)
    · exact valF_succ f r
theorem valF_lt_iff (f : Format) {r s : Nat} : valF f r < valF f s ↔ r < s := ⟨fun h => by
  rcases Nat.lt_trichotomy r s with h' | rfl | h'
  · exact h'
  · omega
  · have := valF_lt f h'; omega, valF_lt f⟩
theorem valF_le_iff (f : Format) {r s : Nat} : valF f r ≤ valF f s ↔ r ≤ s := by
  have := @valF_lt_iff f s r; omega
/-- Between a rung and the next one lies that rung alone. -/
theorem rung_eq (f : Format) {K r c : Nat} (hc : 0 < c) (h1 : valF f K * c ≤ valF f r * c) (h2 : valF f r * c < valF f (K + 1) * c) : K = r := by
  have a := (valF_le_iff f).1 (Nat.le_of_mul_le_mul_right h1 hc)
  have b := (valF_lt_iff f).1 (Nat.lt_of_mul_lt_mul_right h2)
  omega
theorem valF_zero (f : Format) : valF f 0 = 0 := by unfold valF; rw [if_pos (binade_pos f)]

/-- Every number of so few digits is a rung's magnitude. -/
theorem valF_rep (f : Format) (a b : Nat) (h : a < 2 ^ (f.fractionBits + 1)) : ∃ r, valF f r = a * 2 ^ b := by
  by_cases h0 : a = 0
  · exact ⟨0, by rw [valF_zero, h0, Nat.zero_mul]⟩
  · obtain ⟨h1, h2⟩ := log2_bd h0
    have hl : a.log2 ≤ f.fractionBits := by
      have : 2 ^ a.log2 < 2 ^ (f.fractionBits + 1) := Nat.lt_of_le_of_lt h1 h
      have := (Nat.pow_lt_pow_iff_right (by omega)).1 this
      omega
    have hB : f.binade = 2 ^ f.fractionBits := rfl
    have hB2 : 2 * f.binade = 2 ^ (f.fractionBits + 1) := by rw [hB, Nat.pow_succ]; omega
    by_cases hb : f.fractionBits - a.log2 ≤ b
    · refine ⟨(b - (f.fractionBits - a.log2)) * f.binade + a * 2 ^ (f.fractionBits - a.log2), ?_⟩
      rw [valF_mk, Nat.mul_assoc, ← Nat.pow_add]
      · congr 2; omega
      · rw [hB2]
        calc a * 2 ^ (f.fractionBits - a.log2) < 2 ^ (a.log2 + 1) * 2 ^ (f.fractionBits - a.log2) := Nat.mul_lt_mul_of_pos_right h2 (Nat.two_pow_pos _)
          _ = 2 ^ (f.fractionBits + 1) := by rw [← Nat.pow_add]; congr 1; omega
      · intro _
        rw [hB]
        calc 2 ^ f.fractionBits = 2 ^ a.log2 * 2 ^ (f.fractionBits - a.log2) := by rw [← Nat.pow_add]; congr 1; omega
          _ ≤ _ := Nat.mul_le_mul_right _ h1
    · refine ⟨a * 2 ^ b, ?_⟩
      have := valF_mk f 0 (a * 2 ^ b) (by
        rw [hB2]
        calc a * 2 ^ b < 2 ^ (a.log2 + 1) * 2 ^ b := Nat.mul_lt_mul_of_pos_right h2 (Nat.two_pow_pos _)
          _ = 2 ^ (a.log2 + 1 + b) := (Nat.pow_add ..).symm
          _ ≤ _ := Nat.pow_le_pow_right (by omega) (by omega)) (fun h => by omega)
      simpa using this

/-- What a word's datum is, told by its rung (whatever format). -/
theorem read_number (f : Format) (x : Nat) (h : x % f.signWeight < f.infRung) : ∃ m k : Nat, f.read x = .number (x / f.signWeight % 2 == 1) m (f.leastPlace + k) ∧ m * 2 ^ k = valF f (x % f.signWeight) := by
  unfold Format.read
  simp only []
  split
  · rename_i hb
    refine ⟨x % f.signWeight, 0, by simp, ?_⟩
    unfold valF; rw [if_pos hb]; simp
  · rename_i hb
    refine ⟨_, _, rfl, ?_⟩
    unfold valF; rw [if_neg hb]

theorem word_parts (f : Format) (s : Bool) (r : Nat) (h : r < f.signWeight) : f.word s r % f.signWeight = r ∧ (f.word s r / f.signWeight % 2 == 1) = s := by
  unfold Format.word
  cases s
  · rw [if_neg (by decide)]
    exact ⟨Nat.mod_eq_of_lt h, by rw [Nat.div_eq_of_lt h]; rfl⟩
  · rw [if_pos rfl]
    refine ⟨by rw [Nat.add_mod_left, Nat.mod_eq_of_lt h], ?_⟩
    have : (f.signWeight + r) / f.signWeight = 1 := by
      have hp : 0 < f.signWeight := by omega
      rw [Nat.add_div_left _ hp, Nat.div_eq_of_lt h]
    rw [this]; rfl

/-- A number that is a rung's magnitude is written as that rung. -/
theorem nearest_exact (f : Format) (s : Bool) (m : Nat) (p : Int) (r i j : Nat) (hr : r ≤ f.infRung) (hij : p - f.leastPlace = (i : Int) - j) (h : m * 2 ^ i = valF f r * 2 ^ j) : f.nearest s m p = f.word s r := by
  by_cases hm : m = 0
  · have : valF f r = 0 := by
      rw [hm, Nat.zero_mul] at h
      rcases Nat.eq_zero_or_pos (valF f r) with h' | h'
      · exact h'
      · have := Nat.mul_pos h' (Nat.two_pow_pos j); omega
    have hr0 : r = 0 := by
      rcases Nat.eq_zero_or_pos r with h' | h'
      · exact h'
      · have := valF_lt f h'; omega
    unfold Format.nearest
    rw [if_pos hm, hr0]
  · obtain ⟨K, R, hn, _, hb⟩ := nearest_floor f s m p hm
    obtain ⟨b1, b2, b3⟩ := hb i j hij
    have hK : K = r := rung_eq f (Nat.two_pow_pos j) (by rw [← h]; exact b1) (by rw [← h]; exact b2)
    have hR := b3 (by rw [h, hK])
    rw [hn, hR, hK, Nat.min_eq_left hr]
#print axioms nearest_exact
end Go.Proofs.Ytoihdhmgjfoclaa
