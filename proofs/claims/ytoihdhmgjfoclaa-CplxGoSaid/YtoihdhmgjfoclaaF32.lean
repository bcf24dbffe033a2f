/-
  float32 and back: a float32 made wide and narrow again is what it was.
-/
import Derived.Test.YtoihdhmgjfoclaaNear
import Derived.Test.YtoihdhmgjfoclaaFl
namespace Go.Proofs.Ytoihdhmgjfoclaa
open Go.RowKit Ieee

theorem ssign : single.signWeight = 2147483648 := by decide
theorem sinf : single.infRung = 2139095040 := by decide
theorem sleast : single.leastPlace = -149 := by decide

theorem inf_big : valF single single.infRung * 2 ^ 925 ≤ valF double double.infRung := by decide +kernel

/-- The wide word of a narrow number. -/
theorem wide_rung (c : Nat) (hc : valF single single.infRung * 2 ^ c ≤ valF double double.infRung) (r : Nat) (h : r < single.infRung) : ∃ K, K < double.infRung ∧ valF double K = valF single r * 2 ^ c := by
  obtain ⟨e, low, rfl, h1, h2⟩ := rung_cut single r
  have hB : 2 * single.binade = 2 ^ 24 := by decide
  obtain ⟨K, hK⟩ := valF_rep double low (e + c) (by
    have : (2 : Nat) ^ 24 ≤ 2 ^ (double.fractionBits + 1) := by decide
    omega)
  refine ⟨K, ?_, ?_⟩
  · have hlt := valF_lt single h
    rw [valF_mk single e low h1 h2] at hlt
    refine (valF_lt_iff double).1 (Nat.lt_of_lt_of_le ?_ hc)
    rw [hK, Nat.pow_add, ← Nat.mul_assoc]
    exact Nat.mul_lt_mul_of_pos_right hlt (Nat.two_pow_pos _)
  · rw [hK, valF_mk single e low h1 h2, Nat.pow_add, ← Nat.mul_assoc]

def wideW (x : Nat) : Nat := double.write (single.read x)
theorem wide_number (x : Nat) (hx : x < 4294967296) (h : x % 2147483648 < 2139095040) :
    ∃ s m k, single.read x = .number s m k ∧ (double.read (wideW x)).isInfinity = false ∧ ∃ s' m' k', double.read (wideW x) = .number s' m' k' ∧ single.write (.number s' m' k') = x := by
  have h' : x % single.signWeight < single.infRung := by rw [ssign, sinf]; exact h
  obtain ⟨c, hc, hc925⟩ : ∃ c, valF single single.infRung * 2 ^ c ≤ valF double double.infRung ∧ c = 925 := ⟨925, inf_big, rfl⟩
  obtain ⟨m, k, hr, hv⟩ := read_number single x h'
  obtain ⟨K, hK, hKv⟩ := wide_rung c hc _ h'
  have hw : wideW x = double.word (x / single.signWeight % 2 == 1) K := by
    unfold wideW
    rw [hr]
    refine nearest_exact double _ m _ K (k + c) 0 (Nat.le_of_lt hK) ?_ ?_
    · rw [show double.leastPlace = -1074 by decide, sleast]; omega
    · rw [hKv, ← hv, Nat.pow_add]; simp only [Nat.pow_zero, Nat.mul_one, Nat.mul_assoc]
  have hKs : K < double.signWeight := by
    have : double.infRung < double.signWeight := by decide
    omega
  obtain ⟨p1, p2⟩ := word_parts double (x / single.signWeight % 2 == 1) K hKs
  obtain ⟨m', k', hr', hv'⟩ := read_number double (wideW x) (by rw [hw, p1]; exact hK)
  rw [hw, p1] at hv'
  rw [hw, p2] at hr'
  refine ⟨_, _, _, hr, by rw [hw, hr']; rfl, _, _, _, by rw [hw]; exact hr', ?_⟩
  have hn : single.nearest (x / single.signWeight % 2 == 1) m' (double.leastPlace + k') = single.word (x / single.signWeight % 2 == 1) (x % single.signWeight) := by
    refine nearest_exact single _ m' _ _ k' c (Nat.le_of_lt h') ?_ ?_
    · rw [show double.leastPlace = -1074 by decide, sleast]; omega
    · rw [hv', hKv]
  show single.nearest _ _ _ = x
  rw [hn]
  unfold Format.word
  rw [ssign]
  split
  · rename_i hs; simp at hs; omega
  · rename_i hs; simp at hs; omega

theorem s_inf_read (x : Nat) (h : x % 2147483648 = 2139095040) : single.read x = .infinity (x / 2147483648 % 2 == 1) := by
  unfold Format.read
  simp only [ssign, sinf, h]
  rw [if_neg (by decide), if_neg (by decide)]
  rfl
theorem s_nan_iff (x : Nat) : (single.read x).isNaN = true ↔ 2139095040 < x % 2147483648 := by
  have hb : single.binade = 8388608 := by decide
  unfold Format.read
  simp only [ssign, sinf, hb]
  split
  · simp [Datum.isNaN]; omega
  · split
    · simp [Datum.isNaN]; omega
    · split
      · simp [Datum.isNaN]; omega
      · simp [Datum.isNaN]; omega
theorem wide_inf (x : Nat) (hx : x < 4294967296) (h : x % 2147483648 = 2139095040) : ∃ s, double.read (wideW x) = .infinity s ∧ single.write (.infinity s) = x := by
  unfold wideW
  rw [s_inf_read x h]
  refine ⟨x / 2147483648 % 2 == 1, ?_, ?_⟩
  · cases x / 2147483648 % 2 == 1 <;> decide
  · show single.word _ _ = x
    unfold Format.word
    rw [ssign, sinf]
    split
    · rename_i hs; simp at hs; omega
    · rename_i hs; simp at hs; omega

/-- A narrow word: a NaN? -/
def isN32 (x : Nat) : Bool := decide (2139095040 < x % 2147483648)
/-- d is x made wide. -/
structure WR (x d : Nat) : Prop where
  lt : d < 18446744073709551616
  nan : isN32 x = true → cn d = none
  num : isN32 x = false → d = wideW x
/-- r is d made narrow (as far as the language says). -/
structure NR (d r : Nat) : Prop where
  lt : r < 4294967296
  nan : isN d = true → isN32 r = true
  num : ∀ x, x < 4294967296 → isN32 x = false → d = wideW x → r = x

theorem wide_not_nan (x : Nat) (hx : x < 4294967296) (h : isN32 x = false) : isN (wideW x) = false := by
  unfold isN32 at h
  simp at h
  rw [← isNaN_isN]
  by_cases he : x % 2147483648 = 2139095040
  · obtain ⟨s, hs, _⟩ := wide_inf x hx he; rw [hs]; rfl
  · obtain ⟨_, _, _, _, _, _, _, _, hs, _⟩ := wide_number x hx (by omega); rw [hs]; rfl

/-- Wide and narrow again: like what it was. -/
theorem back32 {x d r d1 d2 : Nat} (hx : x < 4294967296) (h : WR x d) (k : NR d r) (h1 : WR r d1) (h2 : WR x d2) : cn d1 = cn d2 := by
  cases hn : isN32 x
  · have e := k.num x hx hn (h.num hn)
    subst e
    rw [h1.num hn, h2.num hn]
  · have : isN d = true := by
      have := h.nan hn
      rw [cn_isN] at this
      cases hd : isN d
      · rw [hd] at this; cases this
      · rfl
    rw [h2.nan hn, h1.nan (k.nan this)]

theorem drawn32 (t : Nat) : isN32 ((t % 2) * 2 ^ 31 + 0x7f800000 + 1 + (t / 2) % (2 ^ 23 - 1)) = true ∧ (t % 2) * 2 ^ 31 + 0x7f800000 + 1 + (t / 2) % (2 ^ 23 - 1) < 4294967296 := by
  have h1 : t % 2 ≤ 1 := by omega
  have h2 : (t / 2) % (2 ^ 23 - 1) < 8388607 := Nat.mod_lt _ (by decide)
  generalize t % 2 = a at h1 ⊢
  generalize (t / 2) % (2 ^ 23 - 1) = b at h2 ⊢
  unfold isN32
  refine ⟨?_, by omega⟩
  simp
  omega

section
variable {P : Program}
theorem run_narrow (b : Nat) (w : World) : ∃ r n, (Conv.floatToFloat .f64 b .f32).run P w = .ok (.float .f32 r) (w.drewN n) ∧ NR b r := by
  have hd : FloatKind.f64.decode b = double.read b := rfl
  have num32 : ∀ x, x < 4294967296 → isN32 x = false → x % 2147483648 < 2139095040 ∨ x % 2147483648 = 2139095040 := by
    intro x _ h; unfold isN32 at h; simp at h; omega
  cases e : double.read b with
  | nan s t =>
    refine ⟨_, 1, by simp only [Conv.floatToFloat, hd, e]; rfl, (drawn32 _).2, fun _ => (drawn32 _).1, ?_⟩
    intro x hx hn hw
    have := wide_not_nan x hx hn
    rw [← hw, ← isNaN_isN, e] at this
    cases this
  | infinity s =>
    have hl : single.write (.infinity s) < 4294967296 := by cases s <;> decide
    refine ⟨single.write (.infinity s), 0, by simp only [Conv.floatToFloat, hd, e]; rfl, hl, fun h => ?_, ?_⟩
    · rw [← isNaN_isN, e] at h; cases h
    · intro x hx hn hw
      rcases num32 x hx hn with h | h
      · obtain ⟨_, _, _, _, hi, _⟩ := wide_number x hx h
        rw [← hw, e] at hi; cases hi
      · obtain ⟨s', hs, hb⟩ := wide_inf x hx h
        rw [← hw, e] at hs
        cases hs
        exact hb
  | number s m p =>
    have hnn : ∀ r, isN b = true → isN32 r = true := by
      intro r h; rw [← isNaN_isN, e] at h; cases h
    have hnum : ∀ x, x < 4294967296 → isN32 x = false → b = wideW x → single.write (.number s m p) = x ∧ (single.read (single.write (.number s m p))).isInfinity = false := by
      intro x hx hn hw
      rcases num32 x hx hn with h | h
      · obtain ⟨_, _, _, h1, _, s', m', k', h2, h3⟩ := wide_number x hx h
        rw [← hw, e] at h2
        cases h2
        rw [h3, h1]
        exact ⟨rfl, rfl⟩
      · obtain ⟨s', hs, _⟩ := wide_inf x hx h
        rw [← hw, e] at hs; cases hs
    cases hi : (single.read (single.write (.number s m p))).isInfinity
    · have hi' : (FloatKind.f32.decode (FloatKind.f32.encode (.number s m p))).isInfinity = false := hi
      refine ⟨single.write (.number s m p), 0, by simp only [Conv.floatToFloat, hd, e, hi']; rfl, ?_, hnn _, fun x hx hn hw => (hnum x hx hn hw).1⟩
      have := single.write_lt (.number s m p)
      have e2 : (2 : Nat) ^ single.width = 4294967296 := by decide
      omega
    · have hi' : (FloatKind.f32.decode (FloatKind.f32.encode (.number s m p))).isInfinity = true := hi
      refine ⟨Question.cut (.floatToFloat b) (w.tape w.drawn (.floatToFloat b)), 1, by simp only [Conv.floatToFloat, hd, e, hi']; rfl, ?_, hnn _, ?_⟩
      · exact Nat.mod_lt _ (by decide)
      · intro x hx hn hw
        have := (hnum x hx hn hw).2
        rw [hi] at this; cases this
theorem run_widen (b : Nat) (hb : b < 4294967296) (w : World) : ∃ r n, (Conv.floatToFloat .f32 b .f64).run P w = .ok (.float .f64 r) (w.drewN n) ∧ WR b r := by
  have hd : FloatKind.f32.decode b = single.read b := rfl
  have hlt : wideW b < 18446744073709551616 := by
    have := double.write_lt (single.read b)
    have e2 : (2 : Nat) ^ double.width = 18446744073709551616 := by decide
    unfold wideW; omega
  cases e : single.read b with
  | nan s t =>
    have hn : isN32 b = true := by
      have := (s_nan_iff b).1 (by rw [e]; rfl)
      unfold isN32; simpa using this
    refine ⟨_, 1, by simp only [Conv.floatToFloat, hd, e]; rfl, (drawn_nan _).2, fun _ => (drawn_nan _).1, fun h => by rw [hn] at h; cases h⟩
  | infinity s =>
    have hn : isN32 b = false := by
      cases h : isN32 b
      · rfl
      · have := (s_nan_iff b).2 (by unfold isN32 at h; simpa using h)
        rw [e] at this; cases this
    refine ⟨wideW b, 0, by simp only [Conv.floatToFloat, hd, e, wideW]; rfl, hlt, fun h => (by rw [hn] at h; cases h), fun _ => rfl⟩
  | number s m p =>
    have hn : isN32 b = false := by
      cases h : isN32 b
      · rfl
      · have := (s_nan_iff b).2 (by unfold isN32 at h; simpa using h)
        rw [e] at this; cases this
    have hr : b % 2147483648 < 2139095040 := by
      unfold isN32 at hn; simp at hn
      rcases Nat.lt_or_eq_of_le hn with h | h
      · exact h
      · rw [s_inf_read b h] at e; cases e
    obtain ⟨_, _, _, _, hi, _⟩ := wide_number b hb hr
    have hi' : (FloatKind.f64.decode (FloatKind.f64.encode (.number s m p))).isInfinity = false := by
      unfold wideW at hi; rw [e] at hi; exact hi
    refine ⟨wideW b, 0, by simp only [Conv.floatToFloat, hd, e, hi', wideW]; rfl, hlt, fun h => (by rw [hn] at h; cases h), fun _ => rfl⟩
end
#print axioms run_narrow
#print axioms run_widen
end Go.Proofs.Ytoihdhmgjfoclaa
