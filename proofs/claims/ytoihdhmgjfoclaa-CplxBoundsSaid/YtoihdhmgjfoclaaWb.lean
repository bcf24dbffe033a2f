/-
  The walks of the functions that compare floats and turn their signs.
-/
import Derived.Test.YtoihdhmgjfoclaaWa
namespace Go.Proofs.Ytoihdhmgjfoclaa
open Go.RowKit

theorem ret_b {a b : Bool} (h : a = b) : Ending.returned (.bool a) = Ending.returned (.bool b) := by rw [h]
theorem ret_i {k : IntKind} {a b : Int} (h : a = b) : Ending.returned (.int k a) = Ending.returned (.int k b) := by rw [h]
theorem ret_f {k : FloatKind} {a b : Nat} (h : a = b) : Ending.returned (.float k a) = Ending.returned (.float k b) := by rw [h]
theorem ret_c {k : FloatKind} {a b c d : Nat} (h : a = c) (h' : b = d) : Ending.returned (.complex k a b) = Ending.returned (.complex k c d) := by rw [h, h']

def likeB (x y : Nat) : Bool := decide (cn x = cn y)
theorem likeB_isN (x y : Nat) : likeB x y = if isN x then isN y else decide (x = y) := by
  unfold likeB
  rw [cn_isN, cn_isN]
  cases hx : isN x <;> cases hy : isN y <;> simp
  intro h; subst h; rw [hx] at hy; cases hy

theorem like_any (x y : Nat) (w : World) :
    Calls Try.prog 83 #[.float .f64 x, .float .f64 y] w fun e w' => e = .returned (.bool (likeB x y)) ∧ w' = w := by
  go_enter Try.func83, Try.ntmps83
  go_wp2
  · have h : (x : Int) = y := by assumption
    have h : x = y := by omega
    subst h
    go_ret
    exact ⟨ret_b (by rw [likeB_isN]; cases isN x <;> simp), rfl⟩
  · have h : ¬(x : Int) = y := by assumption
    have hx : isN x = true := by assumption
    have e : ((x : Int) == y) = false := by simpa using h
    go_ret
    exact ⟨ret_b (by rw [likeB_isN, hx, e]; simp), rfl⟩
  · have h : ¬(x : Int) = y := by assumption
    have hx : ¬isN x = true := by assumption
    have hx : isN x = false := by simpa using hx
    have e : ((x : Int) == y) = false := by simpa using h
    have e2 : decide (x = y) = false := by simp; omega
    go_ret
    exact ⟨ret_b (by rw [likeB_isN, hx, e, e2]; simp), rfl⟩

def bitsW (x : Nat) : Nat := if isN x then 9221120237041090560 else x
theorem rbits_any (x : Nat) (w : World) :
    Calls Try.prog 51 #[.float .f64 x] w fun e w' => e = .returned (.int .u64 (bitsW x : Nat)) ∧ w' = w := by
  go_enter Try.func51, Try.ntmps51
  go_wp2
  · have hx : isN x = true := by assumption
    go_ret
    exact ⟨ret_i (by unfold bitsW; rw [if_pos hx]; rfl), rfl⟩
  · have hx : isN x = false := by assumption
    go_ret
    exact ⟨ret_i (by unfold bitsW; simp [hx]), rfl⟩

theorem bitsW_like (x y : Nat) : decide ((bitsW x : Int) = bitsW y) = likeB x y := by
  have hn : isN 9221120237041090560 = true := by decide
  have a : ∀ z, isN z = false → z ≠ 9221120237041090560 := by intro z hz e; rw [e, hn] at hz; cases hz
  rw [likeB_isN]
  unfold bitsW
  cases hx : isN x <;> cases hy : isN y <;> simp
  · omega
  · have := a x hx
    have : x ≠ y := by intro e; rw [e, hy] at hx; cases hx
    omega
  · have := a y hy
    omega

theorem rlike_any (x y : Nat) (w : World) :
    Calls Try.prog 14 #[.float .f64 x, .float .f64 y] w fun e w' => e = .returned (.bool (likeB x y)) ∧ w' = w := by
  go_enter Try.func14, Try.ntmps14
  go_wp2_with (go_at_call 51; refine (rbits_any _ _).mono ?_; rintro e w' ⟨rfl, rfl⟩)
  go_ret
  exact ⟨ret_b (by rw [← bitsW_like]; rfl), rfl⟩

def sameB (a b c d : Nat) : Bool := likeB a c && likeB b d
theorem same_any (a b c d : Nat) (w : World) :
    Calls Try.prog 24 #[.complex .f64 a b, .complex .f64 c d] w fun e w' => e = .returned (.bool (sameB a b c d)) ∧ w' = w := by
  cases h1 : likeB a c <;> cases h2 : likeB b d <;>
  · go_enter Try.func24, Try.ntmps24
    go_wp2_with (go_at_call 83; refine (like_any _ _ _).mono ?_; rintro e w' ⟨rfl, rfl⟩)
    go_ret
    exact ⟨ret_b (by unfold sameB; rw [h1, h2]; rfl), rfl⟩
theorem rsame_any (a b c d : Nat) (w : World) :
    Calls Try.prog 60 #[.complex .f64 a b, .complex .f64 c d] w fun e w' => e = .returned (.bool (sameB a b c d)) ∧ w' = w := by
  cases h1 : likeB a c <;> cases h2 : likeB b d <;>
  · go_enter Try.func60, Try.ntmps60
    go_wp2_with (go_at_call 14; refine (rlike_any _ _ _).mono ?_; rintro e w' ⟨rfl, rfl⟩)
    go_ret
    exact ⟨ret_b (by unfold sameB; rw [h1, h2]; rfl), rfl⟩
theorem llike_any (a b c d : Nat) (w : World) :
    Calls Try.prog 21 #[.complex .f64 a b, .complex .f64 c d] w fun e w' => e = .returned (.bool (sameB a b c d)) ∧ w' = w := by
  go_enter Try.func21, Try.ntmps21
  go_wp2_with (go_at_call 60; refine (rsame_any _ _ _ _ _).mono ?_; rintro e w' ⟨rfl, rfl⟩)
  go_ret
  exact ⟨rfl, rfl⟩

theorem sameB_of {a b c d : Nat} (h1 : cn a = cn c) (h2 : cn b = cn d) : sameB a b c d = true := by
  unfold sameB likeB; simp [h1, h2]
theorem likeB_of {a c : Nat} (h1 : cn a = cn c) : likeB a c = true := by
  unfold likeB; simp [h1]

/-- 'like' and its kin at two numbers that are like. -/
theorem llike_yes (a b c d : Nat) (w : World) (h1 : cn a = cn c) (h2 : cn b = cn d) :
    Calls Try.prog 21 #[.complex .f64 a b, .complex .f64 c d] w fun e w' => e = .returned (.bool true) ∧ w' = w :=
  (llike_any a b c d w).mono fun e w' h => by rw [sameB_of h1 h2] at h; exact h
theorem same_yes (a b c d : Nat) (w : World) (h1 : cn a = cn c) (h2 : cn b = cn d) :
    Calls Try.prog 24 #[.complex .f64 a b, .complex .f64 c d] w fun e w' => e = .returned (.bool true) ∧ w' = w :=
  (same_any a b c d w).mono fun e w' h => by rw [sameB_of h1 h2] at h; exact h
theorem rlike_yes (a c : Nat) (w : World) (h1 : cn a = cn c) :
    Calls Try.prog 14 #[.float .f64 a, .float .f64 c] w fun e w' => e = .returned (.bool true) ∧ w' = w :=
  (rlike_any a c w).mono fun e w' h => by rw [likeB_of h1] at h; exact h

def infB (x : Nat) : Bool := decide (x % 9223372036854775808 = 9218868437227405312)

theorem isN_max : isN 9218868437227405311 = false := by decide
theorem isN_low : isN 18442240474082181119 = false := by decide
theorem key_max : key 9218868437227405311 = 9218868437227405311 := by decide
theorem key_low : key 18442240474082181119 = -9218868437227405311 := by decide

theorem ltF_max_abs (x : Nat) : ltF 9218868437227405311 (x % 9223372036854775808) = infB x := by
  unfold ltF infB
  rw [isN_max, key_max]
  unfold isN key
  rw [Bool.eq_iff_iff]
  simp
  omega
theorem ltF_max (x : Nat) (hx : x < 18446744073709551616) : ltF 9218868437227405311 x = decide (x = 9218868437227405312) := by
  unfold ltF
  rw [isN_max, key_max]
  unfold isN key
  rw [Bool.eq_iff_iff]
  simp
  split <;> omega
theorem ltF_low (x : Nat) (hx : x < 18446744073709551616) : ltF x 18442240474082181119 = decide (x = 18442240474082181120) := by
  unfold ltF
  rw [isN_low, key_low]
  unfold isN key
  rw [Bool.eq_iff_iff]
  simp
  split <;> omega

theorem inf0_any (x : Nat) (hx : x < 18446744073709551616) (w : World) :
    Calls Try.prog 85 #[.float .f64 x] w fun e w' => e = .returned (.bool (infB x)) ∧ w' = w := by
  go_enter Try.func85, Try.ntmps85
  go_wp2
  go_ret
  exact ⟨ret_b (ltF_max_abs x), rfl⟩
theorem rinf_any (x : Nat) (hx : x < 18446744073709551616) (w : World) :
    Calls Try.prog 87 #[.float .f64 x] w fun e w' => e = .returned (.bool (infB x)) ∧ w' = w := by
  cases h1 : ltF 9218868437227405311 x <;> cases h2 : ltF x 18442240474082181119 <;>
  · go_enter Try.func87, Try.ntmps87
    go_wp2
    go_ret
    refine ⟨ret_b ?_, rfl⟩
    rw [ltF_max x hx] at h1
    rw [ltF_low x hx] at h2
    unfold infB
    simp at h1 h2 ⊢
    omega

def kindN (a b : Nat) : Nat := if infB a || infB b then 1 else if isN a || isN b then 2 else 0
theorem kind_any (a b : Nat) (ha : a < 18446744073709551616) (hb : b < 18446744073709551616) (w : World) :
    Calls Try.prog 49 #[.complex .f64 a b] w fun e w' => e = .returned (.int .u8 (kindN a b : Nat)) ∧ w' = w := by
  cases h1 : infB a <;> cases h2 : infB b <;> cases h3 : isN a <;> cases h4 : isN b <;>
  · go_enter Try.func49, Try.ntmps49
    go_wp2_with (first | (go_at_call 85; refine (inf0_any _ (by assumption) _).mono ?_; rintro e w' ⟨rfl, rfl⟩) | (go_at_call 86; refine (nan_any _ _).mono ?_; rintro e w' ⟨rfl, rfl⟩))
    go_ret
    exact ⟨ret_i (by unfold kindN; rw [h1, h2, h3, h4]; rfl), rfl⟩
theorem rkind_any (a b : Nat) (ha : a < 18446744073709551616) (hb : b < 18446744073709551616) (w : World) :
    Calls Try.prog 50 #[.complex .f64 a b] w fun e w' => e = .returned (.int .i64 (kindN a b : Nat)) ∧ w' = w := by
  cases h1 : infB a <;> cases h2 : infB b <;> cases h3 : isN a <;> cases h4 : isN b <;>
  · go_enter Try.func50, Try.ntmps50
    go_wp2_with (first | (go_at_call 87; refine (rinf_any _ (by assumption) _).mono ?_; rintro e w' ⟨rfl, rfl⟩))
    go_ret
    exact ⟨ret_i (by unfold kindN; rw [h1, h2, h3, h4]; rfl), rfl⟩

theorem neg_any (a b : Nat) (ha : a < 18446744073709551616) (hb : b < 18446744073709551616) (w : World) :
    Calls Try.prog 25 #[.complex .f64 a b] w fun e w' => e = .returned (.complex .f64 (ng a) (ng b)) ∧ w' = w := by
  go_enter Try.func25, Try.ntmps25
  go_wp2
  go_ret
  exact ⟨ret_c (negFloat_ng ha) (negFloat_ng hb), rfl⟩
theorem conj_any (a b : Nat) (hb : b < 18446744073709551616) (w : World) :
    Calls Try.prog 26 #[.complex .f64 a b] w fun e w' => e = .returned (.complex .f64 a (ng b)) ∧ w' = w := by
  go_enter Try.func26, Try.ntmps26
  go_wp2
  go_ret
  exact ⟨ret_c rfl (negFloat_ng hb), rfl⟩
theorem turn_any (a b : Nat) (hb : b < 18446744073709551616) (w : World) :
    Calls Try.prog 27 #[.complex .f64 a b] w fun e w' => e = .returned (.complex .f64 (ng b) a) ∧ w' = w := by
  go_enter Try.func27, Try.ntmps27
  go_wp2
  go_ret
  exact ⟨ret_c (negFloat_ng hb) rfl, rfl⟩

def turnW (x : Nat) : Nat := if isN x then x else ng x
theorem xor_lit (x : Nat) (hx : x < 18446744073709551616) : x ^^^ 9223372036854775808 = ng x := by
  rw [show (9223372036854775808 : Nat) = 2 ^ 63 from rfl]
  exact xor63 hx
@[go_sem] theorem xor_ng (x : Nat) (hx : x < 18446744073709551616) : bits .xor .u64 (x : Int) 9223372036854775808 = ((ng x : Nat) : Int) := by
  have h := bits_xor64 x 9223372036854775808 hx (by omega)
  rw [show (9223372036854775808 : Int) = ((9223372036854775808 : Nat) : Int) from rfl, h, xor_lit x hx]
theorem turnW_nan {x : Nat} (h : isN x = true) : turnW x = x := by unfold turnW; rw [if_pos h]
theorem turnW_num {x : Nat} (h : isN x = false) : turnW x = ng x := by unfold turnW; rw [if_neg (by rw [h]; decide)]
theorem rturned_any (x : Nat) (hx : x < 18446744073709551616) (w : World) :
    Calls Try.prog 89 #[.float .f64 x] w fun e w' => e = .returned (.float .f64 (turnW x)) ∧ w' = w := by
  cases h : isN x
  · go_enter Try.func89, Try.ntmps89
    go_wp2
    go_ret
    exact ⟨ret_f (turnW_num h).symm, rfl⟩
  · go_enter Try.func89, Try.ntmps89
    go_wp2
    go_ret
    exact ⟨ret_f (turnW_nan h).symm, rfl⟩
theorem rneg_any (a b : Nat) (ha : a < 18446744073709551616) (hb : b < 18446744073709551616) (w : World) :
    Calls Try.prog 54 #[.complex .f64 a b] w fun e w' => e = .returned (.complex .f64 (turnW a) (turnW b)) ∧ w' = w := by
  go_enter Try.func54, Try.ntmps54
  go_wp2_with (go_at_call 89; refine (rturned_any _ (by assumption) _).mono ?_; rintro e w' ⟨rfl, rfl⟩)
  go_ret
  exact ⟨rfl, rfl⟩
theorem rconj_any (a b : Nat) (hb : b < 18446744073709551616) (w : World) :
    Calls Try.prog 55 #[.complex .f64 a b] w fun e w' => e = .returned (.complex .f64 a (turnW b)) ∧ w' = w := by
  go_enter Try.func55, Try.ntmps55
  go_wp2_with (go_at_call 89; refine (rturned_any _ (by assumption) _).mono ?_; rintro e w' ⟨rfl, rfl⟩)
  go_ret
  exact ⟨rfl, rfl⟩
theorem rturn_any (a b : Nat) (hb : b < 18446744073709551616) (w : World) :
    Calls Try.prog 56 #[.complex .f64 a b] w fun e w' => e = .returned (.complex .f64 (turnW b) a) ∧ w' = w := by
  go_enter Try.func56, Try.ntmps56
  go_wp2_with (go_at_call 89; refine (rturned_any _ (by assumption) _).mono ?_; rintro e w' ⟨rfl, rfl⟩)
  go_ret
  exact ⟨rfl, rfl⟩
theorem cn_turnW (x : Nat) (hx : x < 18446744073709551616) : cn (turnW x) = cn (ng x) := by
  unfold turnW
  split
  · rename_i h; rw [cn_isN, cn_isN, isN_ng hx, h]; rfl
  · rfl

def eqOrB (x y : Nat) : Bool := eqF x y || isN x && isN y
theorem equalOr_any (x y : Nat) (w : World) :
    Calls Try.prog 29 #[.float .f64 x, .float .f64 y] w fun e w' => e = .returned (.bool (eqOrB x y)) ∧ w' = w := by
  cases h1 : eqF x y <;> cases h2 : isN x <;> cases h3 : isN y <;>
  · go_enter Try.func29, Try.ntmps29
    go_wp2
    go_ret
    exact ⟨ret_b (by unfold eqOrB; rw [h1, h2, h3]; rfl), rfl⟩
theorem whole_any (a b : Nat) (w : World) :
    Calls Try.prog 46 #[.complex .f64 a b] w fun e w' => e = .returned (.bool (!isN a && !isN b)) ∧ w' = w := by
  cases h2 : isN a <;> cases h3 : isN b <;>
  · go_enter Try.func46, Try.ntmps46
    go_wp2
    go_ret
    exact ⟨rfl, rfl⟩

def sgB (x : Nat) : Bool := decide (9223372036854775808 ≤ x)
theorem sign_int (x : Nat) (hx : x < 18446744073709551616) : decide (wrap64 (x : Int) < 0) = sgB x := by
  unfold sgB
  apply decide_eq_decide.2
  unfold wrap64
  omega
theorem signbit_any (x : Nat) (hx : x < 18446744073709551616) (w : World) :
    Calls Try.prog 53 #[.float .f64 x] w fun e w' => e = .returned (.bool (sgB x)) ∧ w' = w := by
  go_enter Try.func53, Try.ntmps53
  go_wp2
  go_ret
  exact ⟨ret_b (sign_int x hx), rfl⟩
theorem equal_any (a b c d : Nat) (w : World) :
    Calls Try.prog 43 #[.complex .f64 a b, .complex .f64 c d] w fun e w' => e = .returned (.bool (eqF a c && eqF b d)) ∧ w' = w := by
  go_enter Try.func43, Try.ntmps43
  go_wp2
  go_ret
  exact ⟨ret_b (by rw [← order_eq, ← order_eq]), rfl⟩
end Go.Proofs.Ytoihdhmgjfoclaa
