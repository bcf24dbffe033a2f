/-
  What the operations on positive floats give, as rungs beside the exact result.
-/
import Derived.Test.YtoihdhmgjfoclaaNear
import Derived.Test.YtoihdhmgjfoclaaBp
import Derived.Test.YtoihdhmgjfoclaaFl
namespace Go.Proofs.Ytoihdhmgjfoclaa
open Ieee

/-- A rung's magnitude in units of the least float. -/
def vD (r : Nat) : Nat := valF double r
/-- Infinity's rung. -/
def iR : Nat := 9218868437227405312
/-- R is the rung below n / d or the one above, or infinity's where that is lower. -/
def Rd (n d R : Nat) : Prop := ∃ K, (R = min K iR ∨ R = min (K + 1) iR) ∧ vD K * d ≤ n ∧ n < vD (K + 1) * d
/-- R is the rung below the root of n or the one above. -/
def Rs (n R : Nat) : Prop := ∃ K, (R = min K iR ∨ R = min (K + 1) iR) ∧ vD K * vD K ≤ n ∧ n < vD (K + 1) * vD (K + 1)

theorem vD_lt {r s : Nat} (h : r < s) : vD r < vD s := valF_lt double h
theorem vD_le {r s : Nat} (h : r ≤ s) : vD r ≤ vD s := (valF_le_iff double).2 h
theorem vD_lt_iff {r s : Nat} : vD r < vD s ↔ r < s := valF_lt_iff double
theorem vD_zero : vD 0 = 0 := valF_zero double
theorem vD_one : 0 < vD (0 + 1) := by have := vD_lt (show 0 < 0 + 1 by omega); rw [vD_zero] at this; exact this

theorem word_pos (r : Nat) : double.word false r = r := by unfold Format.word; rw [if_neg (by decide)]

theorem read_pos {x : Nat} (hx : x < iR) : ∃ m k : Nat, double.read x = .number false m (-1074 + k) ∧ m * 2 ^ k = vD x := by
  unfold iR at hx
  have hd : (9223372036854775808 : Nat) = double.signWeight := by decide
  have hi : (9218868437227405312 : Nat) = double.infRung := by decide
  have hm : x % double.signWeight = x := by rw [← hd]; omega
  have hq : x / double.signWeight = 0 := by rw [← hd]; omega
  obtain ⟨m, k, h1, h2⟩ := read_number double x (by rw [hm, ← hi]; exact hx)
  rw [hq] at h1
  rw [hm] at h2
  exact ⟨m, k, h1, h2⟩

/-- What is written lies beside the exact number. -/
theorem nearest_rd (m : Nat) (p : Int) (n d : Nat) (h0 : m = 0 → n = 0) (hd : 0 < d) (i j : Nat) (hij : p + 1074 = (i : Int) - j)
    (h1 : ∀ K, vD K * 2 ^ j ≤ m * 2 ^ i → vD K * d ≤ n) (h2 : ∀ K, m * 2 ^ i < vD (K + 1) * 2 ^ j → n < vD (K + 1) * d) : ∃ R, double.nearest false m p = R ∧ Rd n d R := by
  by_cases hm : m = 0
  · refine ⟨0, ?_, 0, .inl ?_, ?_, ?_⟩
    · unfold Format.nearest
      rw [if_pos hm]; exact word_pos 0
    · rw [Nat.zero_min]
    · rw [vD_zero, Nat.zero_mul]; exact Nat.zero_le _
    · rw [h0 hm]; exact Nat.mul_pos vD_one hd
  · obtain ⟨K, R, hn, hR, hb⟩ := nearest_floor double false m p hm
    have hl : double.leastPlace = -1074 := by decide
    obtain ⟨b1, b2, _⟩ := hb i j (by rw [hl]; omega)
    have hi : double.infRung = iR := by decide
    refine ⟨min R iR, by rw [hn, word_pos, hi], K, ?_, h1 K b1, h2 K b2⟩
    rcases hR with rfl | rfl
    · exact .inl rfl
    · exact .inr rfl

theorem nearest_rd' (m : Nat) (p : Int) (n d : Nat) (hm : m ≠ 0) (i j : Nat) (hij : p + 1074 = (i : Int) - j)
    (h1 : ∀ K, vD K * 2 ^ j ≤ m * 2 ^ i → m * 2 ^ i < vD (K + 1) * 2 ^ j → vD K * d ≤ n ∧ n < vD (K + 1) * d) : ∃ R, double.nearest false m p = R ∧ Rd n d R := by
  obtain ⟨K, R, hn, hR, hb⟩ := nearest_floor double false m p hm
  have hl : double.leastPlace = -1074 := by decide
  obtain ⟨b1, b2, _⟩ := hb i j (by rw [hl]; omega)
  have hi : double.infRung = iR := by decide
  obtain ⟨c1, c2⟩ := h1 K b1 b2
  refine ⟨min R iR, by rw [hn, word_pos, hi], K, ?_, c1, c2⟩
  rcases hR with rfl | rfl
  · exact .inl rfl
  · exact .inr rfl

def oneE : Nat := 1074
def oneU : Nat := 2 ^ oneE
theorem oneU_pos : 0 < oneU := Nat.two_pow_pos oneE
theorem oneU_eq : ∃ E, E = 1074 ∧ oneU = 2 ^ E := ⟨oneE, rfl, rfl⟩

theorem mul_rd {x y : Nat} (hx : x < iR) (hy : y < iR) : ∃ R, fo .mul (some x) (some y) = some R ∧ Rd (vD x * vD y) oneU R := by
  obtain ⟨m1, k1, e1, v1⟩ := read_pos hx
  obtain ⟨m2, k2, e2, v2⟩ := read_pos hy
  have hf : fo .mul (some x) (some y) = ((double.read x).product (double.read y)).map double.write := rfl
  rw [hf, e1, e2]
  have hv : vD x * vD y = m1 * m2 * 2 ^ (k1 + k2) := by rw [← v1, ← v2, Nat.pow_add]; ac_rfl
  obtain ⟨E, hE, hU⟩ := oneU_eq
  rw [hU]
  have key := nearest_rd (m1 * m2) (-1074 + k1 + (-1074 + k2)) (vD x * vD y) (2 ^ E) (fun h => by rw [hv, h, Nat.zero_mul]) (Nat.two_pow_pos _) (k1 + k2) E (by omega)
    (fun K h => by rw [hv]; exact h) (fun K h => by rw [hv]; exact h)
  obtain ⟨R, hR, hr⟩ := key
  exact ⟨R, congrArg some hR, hr⟩

theorem natAbs_signed (a b i j : Nat) : (signed false a i + signed false b j).natAbs = a * 2 ^ i + b * 2 ^ j ∧ ¬ signed false a i + signed false b j < 0 := by
  unfold signed
  simp only [Nat.shiftLeft_eq]
  simp only [Bool.false_eq_true, if_false]
  omega
theorem add_rd {x y : Nat} (hx : x < iR) (hy : y < iR) : ∃ R, fo .add (some x) (some y) = some R ∧ Rd (vD x + vD y) 1 R := by
  obtain ⟨m1, k1, e1, v1⟩ := read_pos hx
  obtain ⟨m2, k2, e2, v2⟩ := read_pos hy
  have hf : fo .add (some x) (some y) = ((double.read x).sum (double.read y)).map double.write := rfl
  rw [hf, e1, e2]
  simp only [Datum.sum]
  obtain ⟨b, hb⟩ : ∃ b : Nat, min (-1074 + (k1 : Int)) (-1074 + k2) = -1074 + b := ⟨min k1 k2, by omega⟩
  have hb1 : b ≤ k1 := by omega
  have hb2 : b ≤ k2 := by omega
  rw [hb]
  have t1 : (-1074 + (k1 : Int) - (-1074 + b)).toNat = k1 - b := by omega
  have t2 : (-1074 + (k2 : Int) - (-1074 + b)).toNat = k2 - b := by omega
  rw [t1, t2]
  obtain ⟨ha, hneg⟩ := natAbs_signed m1 m2 (k1 - b) (k2 - b)
  have hs : (if signed false m1 (k1 - b) + signed false m2 (k2 - b) = 0 then (false && false) else decide (signed false m1 (k1 - b) + signed false m2 (k2 - b) < 0)) = false := by
    split
    · rfl
    · exact decide_eq_false hneg
  have hv : vD x + vD y = (m1 * 2 ^ (k1 - b) + m2 * 2 ^ (k2 - b)) * 2 ^ b := by
    rw [← v1, ← v2, Nat.add_mul, Nat.mul_assoc, Nat.mul_assoc, ← Nat.pow_add, ← Nat.pow_add, Nat.sub_add_cancel hb1, Nat.sub_add_cancel hb2]
  have key := nearest_rd (m1 * 2 ^ (k1 - b) + m2 * 2 ^ (k2 - b)) (-1074 + b) (vD x + vD y) 1 (fun h => by rw [hv, h, Nat.zero_mul]) (by omega) b 0 (by omega)
    (fun K h => by rw [hv]; simpa using h) (fun K h => by rw [hv]; simpa using h)
  obtain ⟨R, hR, hr⟩ := key
  refine ⟨R, ?_, hr⟩
  simp only [Option.map_some, Format.write]
  rw [ha, hs, hR]

/-- An odd number of so many digits lies strictly between: its neighbours, too, lie on the same side. -/
theorem sticky (K m i j : Nat) (hm : m % 2 = 1) (hbig : 2 ^ 54 ≤ m) (h1 : vD K * 2 ^ j ≤ m * 2 ^ i) (h2 : m * 2 ^ i < vD (K + 1) * 2 ^ j) :
    vD K * 2 ^ j ≤ (m - 1) * 2 ^ i ∧ (m + 1) * 2 ^ i ≤ vD (K + 1) * 2 ^ j := by
  obtain ⟨e, low, rfl, c1, c2⟩ := rung_cut double K
  have v1 : vD (e * double.binade + low) = low * 2 ^ e := valF_mk double e low c1 c2
  have v2 : vD (e * double.binade + low + 1) = (low + 1) * 2 ^ e := valF_mk_succ double e low c1 c2
  have hb : double.binade = 4503599627370496 := by decide
  rw [hb] at c1
  rw [v1, Nat.mul_assoc, ← Nat.pow_add] at h1
  rw [v2, Nat.mul_assoc, ← Nat.pow_add] at h2
  rw [v1, v2, Nat.mul_assoc, Nat.mul_assoc, ← Nat.pow_add]
  clear v1 v2
  by_cases hg : i + 1 ≤ e + j
  · obtain ⟨t, ht⟩ : ∃ t, e + j = i + 1 + t := ⟨e + j - (i + 1), by omega⟩
    have hp : 2 ^ (e + j) = 2 ^ t * 2 * 2 ^ i := by rw [ht, Nat.pow_add, Nat.pow_succ]; ac_rfl
    rw [hp, ← Nat.mul_assoc, ← Nat.mul_assoc] at h1 h2
    rw [hp, ← Nat.mul_assoc, ← Nat.mul_assoc, ← Nat.mul_assoc, ← Nat.mul_assoc]
    have hi := Nat.two_pow_pos i
    have g1 := Nat.le_of_mul_le_mul_right h1 hi
    have g2 := Nat.lt_of_mul_lt_mul_right h2
    generalize low * 2 ^ t = a at *
    generalize (low + 1) * 2 ^ t = b at *
    clear h1 h2
    exact ⟨Nat.mul_le_mul_right _ (by omega), Nat.mul_le_mul_right _ (by omega)⟩
  · exfalso
    have h3 : (low + 1) * 2 ^ (e + j) ≤ 2 ^ 54 * 2 ^ i := Nat.mul_le_mul (by omega) (Nat.pow_le_pow_right (by omega) (by omega))
    have h4 : 2 ^ 54 * 2 ^ i ≤ m * 2 ^ i := Nat.mul_le_mul_right _ hbig
    omega

theorem log2_bds {m : Nat} (hm : m ≠ 0) : 2 ^ m.log2 ≤ m ∧ m < 2 ^ (m.log2 + 1) := ⟨Nat.log2_self_le hm, Nat.lt_log2_self⟩

theorem quo_rd {x y : Nat} (hx : x < iR) (hy : y < iR) (hy0 : 0 < y) : ∃ R, fo .quo (some x) (some y) = some R ∧ Rd (vD x * oneU) (vD y) R := by
  obtain ⟨m1, k1, e1, v1⟩ := read_pos hx
  obtain ⟨n, k2, e2, v2⟩ := read_pos hy
  have hvy : 0 < vD y := by have := vD_lt hy0; rw [vD_zero] at this; exact this
  have hn : n ≠ 0 := by rintro rfl; rw [Nat.zero_mul] at v2; omega
  have hf : fo .quo (some x) (some y) = ((double.read x).quotient 54 (double.read y)).map double.write := rfl
  rw [hf, e1, e2]
  simp only [Datum.quotient]
  rw [if_neg hn]
  obtain ⟨E, hE, hU⟩ := oneU_eq
  rw [hU]
  generalize hmore : 54 + n.log2 - m1.log2 = more
  rw [Nat.shiftLeft_eq]
  have hnp : 0 < n := by omega
  have hdm := Nat.div_add_mod (m1 * 2 ^ more) n
  have hml := Nat.mod_lt (m1 * 2 ^ more) hnp
  obtain ⟨c, hc⟩ : ∃ c, c = ((m1 * 2 ^ more) % n != 0).toNat := ⟨_, rfl⟩
  have hc1 : c ≤ 1 := by rw [hc]; exact Bool.toNat_le _
  have hcz : c = 0 → (m1 * 2 ^ more) % n = 0 := by
    intro h; rw [hc] at h
    cases hb : ((m1 * 2 ^ more) % n != 0)
    · simpa using hb
    · rw [hb] at h; cases h
  rw [← hc]
  have hbig : m1 ≠ 0 → 2 ^ 53 ≤ m1 * 2 ^ more / n := by
    intro h0
    obtain ⟨a1, a2⟩ := log2_bds h0
    obtain ⟨b1, b2⟩ := log2_bds hn
    rw [Nat.le_div_iff_mul_le hnp]
    calc 2 ^ 53 * n ≤ 2 ^ 53 * 2 ^ (n.log2 + 1) := Nat.mul_le_mul_left _ (Nat.le_of_lt b2)
      _ = 2 ^ (53 + (n.log2 + 1)) := (Nat.pow_add ..).symm
      _ ≤ 2 ^ (m1.log2 + more) := Nat.pow_le_pow_right (by omega) (by omega)
      _ = 2 ^ m1.log2 * 2 ^ more := Nat.pow_add ..
      _ ≤ _ := Nat.mul_le_mul_right _ a1
  generalize hq : m1 * 2 ^ more / n = q at *
  generalize hr : (m1 * 2 ^ more) % n = r at *
  -- both sides in the units of the quotient's last digit
  have hA : vD x * 2 ^ E * 2 ^ (k2 + more + 1) = m1 * 2 ^ more * 2 * 2 ^ (k1 + E) * 2 ^ k2 := by
    rw [← v1, Nat.pow_add, Nat.pow_add, Nat.pow_add, Nat.pow_one]; ac_rfl
  have hB : ∀ K, vD K * vD y * 2 ^ (k2 + more + 1) = vD K * 2 ^ (k2 + more + 1) * n * 2 ^ k2 := by
    intro K; rw [← v2]; ac_rfl
  have hp := Nat.two_pow_pos (k2 + more + 1)
  have hp2 := Nat.two_pow_pos k2
  have hm0 : m1 = 0 → q = 0 ∧ r = 0 := by
    rintro rfl
    rw [Nat.zero_mul, Nat.zero_div] at hq
    rw [Nat.zero_mul, Nat.zero_mod] at hr
    exact ⟨hq.symm, hr.symm⟩
  have hlow : ∀ K, vD K * 2 ^ (k2 + more + 1) ≤ 2 * q * 2 ^ (k1 + E) → vD K * vD y ≤ vD x * 2 ^ E := by
    intro K h
    refine Nat.le_of_mul_le_mul_right ?_ hp
    rw [hA, hB]
    refine Nat.mul_le_mul_right _ ?_
    calc vD K * 2 ^ (k2 + more + 1) * n ≤ 2 * q * 2 ^ (k1 + E) * n := Nat.mul_le_mul_right _ h
      _ = n * q * 2 * 2 ^ (k1 + E) := by ac_rfl
      _ ≤ _ := Nat.mul_le_mul_right _ (Nat.mul_le_mul_right _ (by omega))
  have hup : ∀ K, 2 * (q + 1) * 2 ^ (k1 + E) ≤ vD (K + 1) * 2 ^ (k2 + more + 1) → vD x * 2 ^ E < vD (K + 1) * vD y := by
    intro K h
    refine Nat.lt_of_mul_lt_mul_right (a := 2 ^ (k2 + more + 1)) ?_
    rw [hA, hB]
    refine Nat.mul_lt_mul_of_pos_right ?_ hp2
    calc m1 * 2 ^ more * 2 * 2 ^ (k1 + E) < n * (q + 1) * 2 * 2 ^ (k1 + E) := by
          refine Nat.mul_lt_mul_of_pos_right (Nat.mul_lt_mul_of_pos_right ?_ (by omega)) (Nat.two_pow_pos _)
          rw [Nat.mul_add]; omega
      _ = 2 * (q + 1) * 2 ^ (k1 + E) * n := by ac_rfl
      _ ≤ _ := Nat.mul_le_mul_right _ h
  have hplace : -1074 + (k1 : Int) - (-1074 + (k2 : Int)) - (more : Int) - 1 + 1074 = ((k1 + E : Nat) : Int) - ((k2 + more + 1 : Nat) : Int) := by omega
  have key : ∃ R, double.nearest false (2 * q + c) (-1074 + (k1 : Int) - (-1074 + (k2 : Int)) - (more : Int) - 1) = R ∧ Rd (vD x * 2 ^ E) (vD y) R := by
    by_cases h0 : c = 0
    · rw [h0]
      have hr0 : r = 0 := hcz h0
      refine nearest_rd _ _ _ _ ?_ hvy _ _ hplace (fun K h => hlow K (by simpa using h)) ?_
      · intro h
        by_cases hm : m1 = 0
        · rw [← v1, hm]; simp
        · have := hbig hm; omega
      · intro K h
        refine Nat.lt_of_mul_lt_mul_right (a := 2 ^ (k2 + more + 1)) ?_
        rw [hA, hB]
        refine Nat.mul_lt_mul_of_pos_right ?_ hp2
        calc m1 * 2 ^ more * 2 * 2 ^ (k1 + E) = (2 * q + 0) * 2 ^ (k1 + E) * n := by
              rw [← hdm, hr0]; simp only [Nat.add_zero]; ac_rfl
          _ < _ := Nat.mul_lt_mul_of_pos_right h hnp
    · have hc' : c = 1 := by omega
      rw [hc']
      have hm : m1 ≠ 0 := by
        intro hm
        have := (hm0 hm).2
        rw [this] at hc
        rw [hc] at h0
        exact h0 rfl
      have hb := hbig hm
      refine nearest_rd' _ _ _ _ (by omega) _ _ hplace ?_
      intro K h1 h2
      obtain ⟨s1, s2⟩ := sticky K (2 * q + 1) (k1 + E) (k2 + more + 1) (by omega) (by omega) h1 h2
      exact ⟨hlow K (by simpa using s1), hup K (by rw [show 2 * (q + 1) = 2 * q + 1 + 1 by omega]; exact s2)⟩
  obtain ⟨R, hR, hr⟩ := key
  exact ⟨R, congrArg some hR, hr⟩

theorem rootFrom_spec (n : Nat) : ∀ todo root, root * root ≤ n → n < (root + 2 ^ todo) * (root + 2 ^ todo) → Datum.rootFrom n todo root * Datum.rootFrom n todo root ≤ n ∧ n < (Datum.rootFrom n todo root + 1) * (Datum.rootFrom n todo root + 1) := by
  intro todo
  induction todo with
  | zero => intro root h1 h2; exact ⟨h1, h2⟩
  | succ t ih =>
    intro root h1 h2
    unfold Datum.rootFrom
    simp only [Nat.one_shiftLeft]
    split
    · rename_i h
      refine ih _ h ?_
      rw [Nat.add_assoc, ← Nat.two_mul, Nat.mul_comm 2, ← Nat.pow_succ]; exact h2
    · rename_i h
      exact ih _ h1 (by omega)
theorem root_spec (n : Nat) : Datum.rootFrom n (n.log2 / 2 + 1) 0 * Datum.rootFrom n (n.log2 / 2 + 1) 0 ≤ n ∧ n < (Datum.rootFrom n (n.log2 / 2 + 1) 0 + 1) * (Datum.rootFrom n (n.log2 / 2 + 1) 0 + 1) := by
  refine rootFrom_spec n _ 0 (Nat.zero_le _) ?_
  rw [Nat.zero_add, ← Nat.pow_add]
  by_cases h0 : n = 0
  · rw [h0]; exact Nat.two_pow_pos _
  · exact Nat.lt_of_lt_of_le Nat.lt_log2_self (Nat.pow_le_pow_right (by omega) (by omega))
theorem sq_lt {a b : Nat} (h : a < b) : a * a < b * b := Nat.lt_of_le_of_lt (Nat.mul_le_mul_left a (Nat.le_of_lt h)) (Nat.mul_lt_mul_of_pos_right h (by omega))
theorem le_of_sq {a b : Nat} (h : a * a ≤ b * b) : a ≤ b := by
  rcases Nat.lt_or_ge b a with h' | h'
  · have := sq_lt h'; omega
  · exact h'
theorem lt_of_sq {a b : Nat} (h : a * a < b * b) : a < b := by
  rcases Nat.lt_or_ge a b with h' | h'
  · exact h'
  · have := sq_le h'; omega

theorem nearest_rs (m : Nat) (p : Int) (n : Nat) (hm : m ≠ 0) (i j : Nat) (hij : p + 1074 = (i : Int) - j)
    (h1 : ∀ K, vD K * 2 ^ j ≤ m * 2 ^ i → m * 2 ^ i < vD (K + 1) * 2 ^ j → vD K * vD K ≤ n ∧ n < vD (K + 1) * vD (K + 1)) : ∃ R, double.nearest false m p = R ∧ Rs n R := by
  obtain ⟨K, R, hn, hR, hb⟩ := nearest_floor double false m p hm
  have hl : double.leastPlace = -1074 := by decide
  obtain ⟨b1, b2, _⟩ := hb i j (by rw [hl]; omega)
  have hi : double.infRung = iR := by decide
  obtain ⟨c1, c2⟩ := h1 K b1 b2
  refine ⟨min R iR, by rw [hn, word_pos, hi], K, ?_, c1, c2⟩
  rcases hR with rfl | rfl
  · exact .inl rfl
  · exact .inr rfl

theorem sqrt_rs {x : Nat} (hx : x < iR) (h0 : 0 < x) : ∃ R, double.sqrt x = some R ∧ Rs (vD x * oneU) R := by
  obtain ⟨m1, k1, e1, v1⟩ := read_pos hx
  have hvx : 0 < vD x := by have := vD_lt h0; rw [vD_zero] at this; exact this
  have hm1 : m1 ≠ 0 := by rintro rfl; rw [Nat.zero_mul] at v1; omega
  have hf : double.sqrt x = ((double.read x).root 54).map double.write := rfl
  rw [hf, e1]
  simp only [Datum.root]
  rw [if_neg hm1, if_neg (by decide)]
  obtain ⟨E, hE, hU⟩ := oneU_eq
  rw [hU]
  obtain ⟨more, hmore⟩ : ∃ more, more = 2 * 54 - m1.log2 + ((-1074 + (k1 : Int) - (2 * 54 - m1.log2 : Nat)) % 2).toNat := ⟨_, rfl⟩
  rw [← hmore]
  obtain ⟨g, hg⟩ : ∃ g : Int, -1074 + (k1 : Int) - more = 2 * g := ⟨(-1074 + (k1 : Int) - more) / 2, by omega⟩
  have hml : 108 ≤ m1.log2 + more := by omega
  have hg2 : (-1074 + (k1 : Int) - more) / 2 = g := by omega
  rw [hg2, Nat.shiftLeft_eq]
  obtain ⟨r1, r2⟩ := root_spec (m1 * 2 ^ more)
  obtain ⟨a1, a2⟩ := log2_bds hm1
  have hbign : 2 ^ 54 * 2 ^ 54 ≤ m1 * 2 ^ more := by
    calc 2 ^ 54 * 2 ^ 54 = 2 ^ 108 := by rw [← Nat.pow_add]
      _ ≤ 2 ^ (m1.log2 + more) := Nat.pow_le_pow_right (by omega) hml
      _ = 2 ^ m1.log2 * 2 ^ more := Nat.pow_add ..
      _ ≤ _ := Nat.mul_le_mul_right _ a1
  clear hmore
  generalize hn : m1 * 2 ^ more = n at *
  generalize Datum.rootFrom n (n.log2 / 2 + 1) 0 = q at *
  have hq : 2 ^ 54 ≤ q := by
    have : 2 ^ 54 < q + 1 := lt_of_sq (Nat.lt_of_le_of_lt hbign r2)
    omega
  obtain ⟨c, hc⟩ : ∃ c, c = (q * q != n).toNat := ⟨_, rfl⟩
  have hc1 : c ≤ 1 := by rw [hc]; exact Bool.toNat_le _
  have hcz : c = 0 → q * q = n := by
    intro h; rw [hc] at h
    cases hb : (q * q != n)
    · simpa using hb
    · rw [hb] at h; cases h
  rw [← hc]
  obtain ⟨i, j, hij⟩ : ∃ i j : Nat, g - 1 + 1074 = (i : Int) - j := ⟨(g - 1 + 1074).toNat, (-(g - 1 + 1074)).toNat, by omega⟩
  -- n and the number whose root is asked
  have hN : vD x * 2 ^ E * (2 ^ j * 2 ^ j) = n * 4 * (2 ^ i * 2 ^ i) := by
    have e4 : (4 : Nat) = 2 ^ 2 := rfl
    rw [← v1, ← hn, e4, ← Nat.pow_add, ← Nat.pow_add, Nat.mul_assoc m1, Nat.mul_assoc m1, Nat.mul_assoc m1, Nat.mul_assoc m1, ← Nat.pow_add, ← Nat.pow_add, ← Nat.pow_add, ← Nat.pow_add]
    have he : k1 + E + (j + j) = more + 2 + (i + i) := by omega
    rw [he]
  have hpj : 0 < 2 ^ j * 2 ^ j := Nat.mul_pos (Nat.two_pow_pos _) (Nat.two_pow_pos _)
  have hlow : ∀ K, vD K * 2 ^ j ≤ 2 * q * 2 ^ i → vD K * vD K ≤ vD x * 2 ^ E := by
    intro K h
    refine Nat.le_of_mul_le_mul_right ?_ hpj
    rw [hN]
    calc vD K * vD K * (2 ^ j * 2 ^ j) = vD K * 2 ^ j * (vD K * 2 ^ j) := by ac_rfl
      _ ≤ 2 * q * 2 ^ i * (2 * q * 2 ^ i) := sq_le h
      _ = q * q * (2 * 2) * (2 ^ i * 2 ^ i) := by ac_rfl
      _ ≤ _ := Nat.mul_le_mul_right _ (Nat.mul_le_mul_right _ r1)
  have hup : ∀ K, 2 * (q + 1) * 2 ^ i ≤ vD (K + 1) * 2 ^ j → vD x * 2 ^ E < vD (K + 1) * vD (K + 1) := by
    intro K h
    refine Nat.lt_of_mul_lt_mul_right (a := 2 ^ j * 2 ^ j) ?_
    rw [hN]
    calc n * 4 * (2 ^ i * 2 ^ i) < (q + 1) * (q + 1) * 4 * (2 ^ i * 2 ^ i) := Nat.mul_lt_mul_of_pos_right (Nat.mul_lt_mul_of_pos_right r2 (by omega)) (Nat.mul_pos (Nat.two_pow_pos _) (Nat.two_pow_pos _))
      _ = (q + 1) * (q + 1) * (2 * 2) * (2 ^ i * 2 ^ i) := rfl
      _ = 2 * (q + 1) * 2 ^ i * (2 * (q + 1) * 2 ^ i) := by ac_rfl
      _ ≤ vD (K + 1) * 2 ^ j * (vD (K + 1) * 2 ^ j) := sq_le h
      _ = _ := by ac_rfl
  have key : ∃ R, double.nearest false (2 * q + c) (g - 1) = R ∧ Rs (vD x * 2 ^ E) R := by
    by_cases h0 : c = 0
    · rw [h0]
      have hqq := hcz h0
      refine nearest_rs _ _ _ (by omega) i j hij ?_
      intro K h1 h2
      refine ⟨hlow K (by simpa using h1), ?_⟩
      refine Nat.lt_of_mul_lt_mul_right (a := 2 ^ j * 2 ^ j) ?_
      rw [hN, ← hqq]
      calc q * q * 4 * (2 ^ i * 2 ^ i) = q * q * (2 * 2) * (2 ^ i * 2 ^ i) := rfl
        _ = 2 * q * 2 ^ i * (2 * q * 2 ^ i) := by ac_rfl
        _ < vD (K + 1) * 2 ^ j * (vD (K + 1) * 2 ^ j) := sq_lt (by simpa using h2)
        _ = _ := by ac_rfl
    · have hc' : c = 1 := by omega
      rw [hc']
      refine nearest_rs _ _ _ (by omega) i j hij ?_
      intro K h1 h2
      obtain ⟨s1, s2⟩ := sticky K (2 * q + 1) i j (by omega) (by omega) h1 h2
      exact ⟨hlow K (by simpa using s1), hup K (by rw [show 2 * (q + 1) = 2 * q + 1 + 1 by omega]; exact s2)⟩
  obtain ⟨R, hR, hr⟩ := key
  exact ⟨R, congrArg some hR, hr⟩

/-! ### the rung above and below -/
theorem vD_step (x : Nat) (h : 4503599627370496 ≤ x) : vD (x + 1) * 4503599627370496 ≤ vD x * 4503599627370497 := by
  obtain ⟨e, low, rfl, c1, c2⟩ := rung_cut double x
  have v1 : vD (e * double.binade + low) = low * 2 ^ e := valF_mk double e low c1 c2
  have v2 : vD (e * double.binade + low + 1) = (low + 1) * 2 ^ e := valF_mk_succ double e low c1 c2
  have hb : double.binade = 4503599627370496 := by decide
  have hlow : 4503599627370496 ≤ low := by
    rcases Nat.eq_zero_or_pos e with he | he
    · rw [he] at h; omega
    · have := c2 he; omega
  rw [v1, v2]
  calc (low + 1) * 2 ^ e * 4503599627370496 = (low + 1) * 4503599627370496 * 2 ^ e := by ac_rfl
    _ ≤ low * 4503599627370497 * 2 ^ e := Nat.mul_le_mul_right _ (by omega)
    _ = _ := by ac_rfl
theorem vD_small (x : Nat) (h : x ≤ 4503599627370496) : vD x = x ∧ vD (x + 1) = x + 1 := by
  have hb : double.binade = 4503599627370496 := by decide
  have a := valF_mk double 0 x (by rw [hb]; omega) (by omega)
  have b := valF_mk_succ double 0 x (by rw [hb]; omega) (by omega)
  rw [Nat.zero_mul, Nat.zero_add, Nat.pow_zero, Nat.mul_one] at a b
  exact ⟨a, b⟩
/-- 2^52 and the next number. -/
def cA : Nat := 4503599627370496
def cB : Nat := 4503599627370497
theorem vD_stepc (x : Nat) (h : cA ≤ x) : vD (x + 1) * cA ≤ vD x * cB := vD_step x h
theorem vD_smallc (x : Nat) (h : x ≤ cA) : vD x = x ∧ vD (x + 1) = x + 1 := vD_small x h
theorem cAB : cB = cA + 1 := rfl
/-- Two rungs on: a factor, and two units where they are small. -/
theorem vD_two (x : Nat) (h : cA ≤ x) : vD (x + 2) * (cA * cA) ≤ vD x * (cB * cB) := by
  have h1 := vD_stepc x h
  have h2 := vD_stepc (x + 1) (by omega)
  calc vD (x + 1 + 1) * (cA * cA) = vD (x + 1 + 1) * cA * cA := by ac_rfl
    _ ≤ vD (x + 1) * cB * cA := Nat.mul_le_mul_right _ h2
    _ = vD (x + 1) * cA * cB := by ac_rfl
    _ ≤ vD x * cB * cB := Nat.mul_le_mul_right _ h1
    _ = _ := by ac_rfl
theorem vD_two' (x : Nat) : vD (x + 2) * (cA * cA) ≤ vD x * (cB * cB) + 2 * (cA * cA) := by
  by_cases h : cA ≤ x
  · have := vD_two x h; omega
  · have h1 := (vD_smallc x (by omega)).1
    have h2 := (vD_smallc (x + 1) (by omega)).2
    have h3 : cA * cA ≤ cB * cB := Nat.mul_le_mul (by rw [cAB]; omega) (by rw [cAB]; omega)
    rw [h1, show x + 2 = x + 1 + 1 from rfl, h2, show x + 1 + 1 = x + 2 from rfl, Nat.add_mul]
    have := Nat.mul_le_mul_left x h3
    omega
end Go.Proofs.Ytoihdhmgjfoclaa
