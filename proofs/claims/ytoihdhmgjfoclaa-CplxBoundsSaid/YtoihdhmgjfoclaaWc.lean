/-
  The walks of the neighbours of a float, of the bounds of a magnitude, of sums of lists.
-/
import Derived.Test.YtoihdhmgjfoclaaWb
import Derived.LoopTactic
import Derived.Lib.Hide
namespace Go.Proofs.Ytoihdhmgjfoclaa
open Go.RowKit

def upW (x : Nat) : Nat := if isN x then x else if ltF 9218868437227405311 x then x else if eqF x 0 then 1 else if 9223372036854775808 ≤ x then x - 1 else x + 1
def dnW (x : Nat) : Nat := if isN x then x else if ltF x 18442240474082181119 then x else if eqF x 0 then 9223372036854775809 else if 9223372036854775808 ≤ x then x + 1 else x - 1
def flW (x : Nat) : Nat := if ltF (dnW x) 0 then 0 else dnW x

theorem isN_zero : isN 0 = false := by decide
theorem key_zero : key 0 = 0 := by decide
theorem eqF_zero (x : Nat) (h : eqF x 0 = false) (hn : isN x = false) : x ≠ 0 ∧ x ≠ 9223372036854775808 := by
  constructor
  · intro e; subst e; revert h; decide
  · intro e; subst e; revert h; decide
theorem key_pos {x : Nat} (h : x < 9223372036854775808) : key x = x := by
  unfold key; split <;> omega
theorem key_negv {x : Nat} (h : 9223372036854775808 ≤ x) (hx : x < 18446744073709551616) : key x = -((x - 9223372036854775808 : Nat) : Int) := by
  unfold key; split <;> omega
theorem ltF_zero (x : Nat) (hx : x < 18446744073709551616) (h : eqF x 0 = false) (hn : isN x = false) : ltF 0 x = decide (x < 9223372036854775808) := by
  have hz := eqF_zero x h hn
  unfold ltF
  rw [isN_zero, key_zero, hn]
  simp only [Bool.not_false, Bool.true_and]
  by_cases hs : x < 9223372036854775808
  · rw [key_pos hs]
    apply decide_eq_decide.2
    omega
  · rw [key_negv (by omega) hx]
    apply decide_eq_decide.2
    omega
theorem ltF_neg_max (x : Nat) (hx : x < 18446744073709551616) : ltF 9218868437227405311 (Op.negFloat .f64 x) = ltF x 18442240474082181119 := by
  rw [negFloat_ng hx]
  unfold ltF
  rw [isN_ng hx, key_ng hx, isN_max, isN_low, key_max, key_low]
  cases isN x
  · simp only [Bool.not_false, Bool.true_and]
    apply decide_eq_decide.2
    omega
  · simp only [Bool.not_true, Bool.false_and, Bool.and_false]
theorem wrap_dec (x : Nat) (hx : x < 18446744073709551616) (h : 1 ≤ x) : (IntKind.u64.wrap ((x : Int) - 1)).toNat = x - 1 := by
  have e : ((x : Int) - 1) % 18446744073709551616 = ((x - 1 : Nat) : Int) := by omega
  rw [IntKind.wrap_u64, e, Int.toNat_natCast]
theorem wrap_inc (x : Nat) (hx : x < 18446744073709551615) : (IntKind.u64.wrap ((x : Int) + 1)).toNat = x + 1 := by
  have e : ((x : Int) + 1) % 18446744073709551616 = ((x + 1 : Nat) : Int) := by omega
  rw [IntKind.wrap_u64, e, Int.toNat_natCast]
theorem sg_yes {x : Nat} (h : ((x : Int) / 9223372036854775808 * 9223372036854775808 != 0) = true) : 9223372036854775808 ≤ x := by
  simp at h; omega
theorem sg_no {x : Nat} (h : ((x : Int) / 9223372036854775808 * 9223372036854775808 != 0) = false) : ¬ 9223372036854775808 ≤ x := by
  simp at h; omega
theorem isN_lt {x : Nat} (hx : x < 18446744073709551616) (h : isN x = false) : x < 18446744073709551615 := by
  unfold isN at h; simp at h; omega


theorem up_any (x : Nat) (hx : x < 18446744073709551616) (w : World) :
    Calls Try.prog 76 #[.float .f64 x] w fun e w' => e = .returned (.float .f64 (upW x)) ∧ w' = w := by
  cases h1 : isN x
  · have hlt := isN_lt hx h1
    cases h2 : ltF 9218868437227405311 x
    · cases h3 : eqF x 0
      · have hz := eqF_zero x h3 h1
        have HZ := Lib.hid hz
        clear hz
        go_enter Try.func76, Try.ntmps76
        go_wp2
        · have h4 := sg_yes (x := x) (by assumption)
          go_ret
          exact ⟨ret_f (by unfold upW; rw [h1, h2, h3, if_neg (by decide), if_neg (by decide), if_neg (by decide), if_pos h4]; first | done | exact wrap_dec x hx (by omega)), rfl⟩
        · have h4 := sg_no (x := x) (by assumption)
          have hz' := HZ.out.1
          go_ret
          exact ⟨ret_f (by unfold upW; rw [h1, h2, h3, if_neg (by decide), if_neg (by decide), if_neg (by decide), if_neg h4]; first | done | exact wrap_inc x (by omega)), rfl⟩
      · go_enter Try.func76, Try.ntmps76
        go_wp2
        go_ret
        exact ⟨ret_f (by unfold upW; rw [h1, h2, h3]; rfl), rfl⟩
    · go_enter Try.func76, Try.ntmps76
      go_wp2
      go_ret
      exact ⟨ret_f (by unfold upW; rw [h1, h2]; rfl), rfl⟩
  · go_enter Try.func76, Try.ntmps76
    go_wp2
    go_ret
    exact ⟨ret_f (by unfold upW; rw [h1]; rfl), rfl⟩

theorem rup_any (x : Nat) (hx : x < 18446744073709551616) (w : World) :
    Calls Try.prog 78 #[.float .f64 x] w fun e w' => e = .returned (.float .f64 (upW x)) ∧ w' = w := by
  cases h1 : isN x
  · have hlt := isN_lt hx h1
    cases h2 : ltF 9218868437227405311 x
    · cases h3 : eqF x 0
      · have hz := eqF_zero x h3 h1
        have hp := ltF_zero x hx h3 h1
        by_cases h4 : 9223372036854775808 ≤ x
        · have h5 : ltF 0 x = false := by rw [hp]; simpa using h4
          clear hp hz
          go_enter Try.func78, Try.ntmps78
          go_wp2
          go_ret
          exact ⟨ret_f (by unfold upW; rw [h1, h2, h3, if_neg (by decide), if_neg (by decide), if_neg (by decide), if_pos h4]; first | done | exact wrap_dec x hx (by omega)), rfl⟩
        · have h5 : ltF 0 x = true := by rw [hp]; simpa using h4
          have hz' := hz.1
          clear hp hz
          go_enter Try.func78, Try.ntmps78
          go_wp2
          go_ret
          exact ⟨ret_f (by unfold upW; rw [h1, h2, h3, if_neg (by decide), if_neg (by decide), if_neg (by decide), if_neg h4]; first | done | exact wrap_inc x (by omega)), rfl⟩
      · go_enter Try.func78, Try.ntmps78
        go_wp2
        go_ret
        exact ⟨ret_f (by unfold upW; rw [h1, h2, h3]; rfl), rfl⟩
    · go_enter Try.func78, Try.ntmps78
      go_wp2
      go_ret
      exact ⟨ret_f (by unfold upW; rw [h1, h2]; rfl), rfl⟩
  · go_enter Try.func78, Try.ntmps78
    go_wp2
    go_ret
    exact ⟨ret_f (by unfold upW; rw [h1]; rfl), rfl⟩

theorem dn_any (x : Nat) (hx : x < 18446744073709551616) (w : World) :
    Calls Try.prog 96 #[.float .f64 x] w fun e w' => e = .returned (.float .f64 (dnW x)) ∧ w' = w := by
  have hng := ltF_neg_max x hx
  cases h1 : isN x
  · have hlt := isN_lt hx h1
    cases h2 : ltF x 18442240474082181119
    · cases h3 : eqF x 0
      · have hz := eqF_zero x h3 h1
        have HZ := Lib.hid hz
        clear hz
        go_enter Try.func96, Try.ntmps96
        go_wp2
        · have h4 := sg_yes (x := x) (by assumption)
          go_ret
          exact ⟨ret_f (by unfold dnW; rw [h1, h2, h3, if_neg (by decide), if_neg (by decide), if_neg (by decide), if_pos h4]; first | done | exact wrap_inc x (by omega)), rfl⟩
        · have h4 := sg_no (x := x) (by assumption)
          have hz' := HZ.out.1
          go_ret
          exact ⟨ret_f (by unfold dnW; rw [h1, h2, h3, if_neg (by decide), if_neg (by decide), if_neg (by decide), if_neg h4]; first | done | exact wrap_dec x hx (by omega)), rfl⟩
      · go_enter Try.func96, Try.ntmps96
        go_wp2
        go_ret
        exact ⟨ret_f (by unfold dnW; rw [h1, h2, h3]; rfl), rfl⟩
    · go_enter Try.func96, Try.ntmps96
      go_wp2
      go_ret
      exact ⟨ret_f (by unfold dnW; rw [h1, h2]; rfl), rfl⟩
  · go_enter Try.func96, Try.ntmps96
    go_wp2
    go_ret
    exact ⟨ret_f (by unfold dnW; rw [h1]; rfl), rfl⟩

theorem rdn_any (x : Nat) (hx : x < 18446744073709551616) (w : World) :
    Calls Try.prog 97 #[.float .f64 x] w fun e w' => e = .returned (.float .f64 (dnW x)) ∧ w' = w := by
  cases h1 : isN x
  · have hlt := isN_lt hx h1
    cases h2 : ltF x 18442240474082181119
    · cases h3 : eqF x 0
      · have hz := eqF_zero x h3 h1
        have hp := ltF_zero x hx h3 h1
        by_cases h4 : 9223372036854775808 ≤ x
        · have h5 : ltF 0 x = false := by rw [hp]; simpa using h4
          clear hp hz
          go_enter Try.func97, Try.ntmps97
          go_wp2
          go_ret
          exact ⟨ret_f (by unfold dnW; rw [h1, h2, h3, if_neg (by decide), if_neg (by decide), if_neg (by decide), if_pos h4]; first | done | exact wrap_inc x (by omega)), rfl⟩
        · have h5 : ltF 0 x = true := by rw [hp]; simpa using h4
          have hz' := hz.1
          clear hp hz
          go_enter Try.func97, Try.ntmps97
          go_wp2
          go_ret
          exact ⟨ret_f (by unfold dnW; rw [h1, h2, h3, if_neg (by decide), if_neg (by decide), if_neg (by decide), if_neg h4]; first | done | exact wrap_dec x hx (by omega)), rfl⟩
      · go_enter Try.func97, Try.ntmps97
        go_wp2
        go_ret
        exact ⟨ret_f (by unfold dnW; rw [h1, h2, h3]; rfl), rfl⟩
    · go_enter Try.func97, Try.ntmps97
      go_wp2
      go_ret
      exact ⟨ret_f (by unfold dnW; rw [h1, h2]; rfl), rfl⟩
  · go_enter Try.func97, Try.ntmps97
    go_wp2
    go_ret
    exact ⟨ret_f (by unfold dnW; rw [h1]; rfl), rfl⟩

theorem fl_any (x : Nat) (hx : x < 18446744073709551616) (w : World) :
    Calls Try.prog 80 #[.float .f64 x] w fun e w' => e = .returned (.float .f64 (flW x)) ∧ w' = w := by
  cases h1 : ltF (dnW x) 0 <;>
  · go_enter Try.func80, Try.ntmps80
    go_wp2_with (go_at_call 96; refine (dn_any _ (by assumption) _).mono ?_; rintro e w' ⟨rfl, rfl⟩)
    go_ret
    exact ⟨ret_f (by unfold flW; rw [h1]; rfl), rfl⟩

theorem rfl_any (x : Nat) (hx : x < 18446744073709551616) (w : World) :
    Calls Try.prog 81 #[.float .f64 x] w fun e w' => e = .returned (.float .f64 (flW x)) ∧ w' = w := by
  cases h1 : ltF (dnW x) 0 <;>
  · go_enter Try.func81, Try.ntmps81
    go_wp2_with (go_at_call 97; refine (rdn_any _ (by assumption) _).mono ?_; rintro e w' ⟨rfl, rfl⟩)
    go_ret
    exact ⟨ret_f (by unfold flW; rw [h1]; rfl), rfl⟩

def szP (a b : Nat) : Nat := if ltF (a % 9223372036854775808) (b % 9223372036854775808) then b % 9223372036854775808 else a % 9223372036854775808
def szQ (a b : Nat) : Nat := if ltF (a % 9223372036854775808) (b % 9223372036854775808) then a % 9223372036854775808 else b % 9223372036854775808

theorem sz_any (a b : Nat) (ha : a < 18446744073709551616) (hb : b < 18446744073709551616) (w : World) :
    Calls Try.prog 74 #[.complex .f64 a b] w fun e w' => e = .returned (.tuple #[.float .f64 (szP a b), .float .f64 (szQ a b)]) ∧ w' = w := by
  cases h1 : ltF (a % 9223372036854775808) (b % 9223372036854775808) <;>
  · go_enter Try.func74, Try.ntmps74
    go_wp2_with (go_at_call 71; refine (abs_any _ (by assumption) _).mono ?_; rintro e w' ⟨rfl, rfl⟩)
    go_ret2
    exact ⟨by unfold szP szQ; rw [h1]; rfl, rfl⟩

theorem rsz_any (a b : Nat) (ha : a < 18446744073709551616) (hb : b < 18446744073709551616) (w : World) :
    Calls Try.prog 77 #[.complex .f64 a b] w fun e w' => e = .returned (.tuple #[.float .f64 (szP a b), .float .f64 (szQ a b)]) ∧ w' = w := by
  cases h1 : ltF (a % 9223372036854775808) (b % 9223372036854775808) <;>
  · go_enter Try.func77, Try.ntmps77
    go_wp2_with (go_at_call 71; refine (abs_any _ (by assumption) _).mono ?_; rintro e w' ⟨rfl, rfl⟩)
    go_ret2
    exact ⟨by unfold szP szQ; rw [h1]; rfl, rfl⟩

def sqO (o : Option Nat) : Option Nat := o.bind fun x => Ieee.double.sqrt x
theorem sqrt_sqO (x : Nat) : Ieee.double.sqrt x = sqO (cn x) := by
  unfold sqO cn
  cases hx : (Ieee.double.read x).isNaN
  · rfl
  · obtain ⟨s, t, e⟩ : ∃ s t, Ieee.double.read x = .nan s t := by
      cases e : Ieee.double.read x <;> simp [e, Ieee.Datum.isNaN] at hx ⊢
    simp [Ieee.Format.sqrt, e, Ieee.Datum.root]
theorem sqrt_fv {x r : Nat} (h : Ieee.double.sqrt x = some r) : FV r (some r) := by
  have hl : r < 2 ^ Ieee.double.width := Ieee.Format.sqrt_lt _ h
  have e : (2 : Nat) ^ Ieee.double.width = 18446744073709551616 := by decide
  rw [e] at hl
  refine ⟨?_, hl⟩
  unfold Ieee.Format.sqrt at h
  cases hr : (Ieee.double.read x).root (Ieee.double.fractionBits + 2) with
  | none => rw [hr] at h; cases h
  | some d => rw [hr] at h; cases h; unfold cn; rw [write_nan d (root_nan hr)]; rfl
def nanW (x : Nat) (w : World) : Nat := Question.cut (.nanBits .f64 x x) (w.tape w.drawn (.nanBits .f64 x x))
theorem ext95 (x : Nat) (w : World) : (callFunc 95 #[.float .f64 x]).run Try.prog w = ((Extern.MathSqrt.sqrt #[.float .f64 x]).run Try.prog w).andThen fun v w' => .ok (.value v) w' := by
  rw [run_callFunc_extern Try.func95 (by kernel_rfl) (by kernel_rfl) (by kernel_rfl) (e := Extern.MathSqrt.sqrt) (by kernel_rfl)]
theorem sqrt_entry (x : Nat) : Extern.MathSqrt.sqrt #[.float .f64 x] = (match FloatKind.f64.format.sqrt x with | some r => pure (.float .f64 r) | none => do pure (.float .f64 (← choose (.nanBits .f64 x x)))) := rfl
@[go_sem] theorem ext95_some (x r : Nat) (h : Ieee.double.sqrt x = some r) (w : World) : (callFunc 95 #[.float .f64 x]).run Try.prog w = .ok (.value (.float .f64 r)) w := by
  have h' : FloatKind.f64.format.sqrt x = some r := h
  rw [ext95, sqrt_entry, h']
  rfl
@[go_sem] theorem ext95_none (x : Nat) (h : Ieee.double.sqrt x = none) (w : World) : (callFunc 95 #[.float .f64 x]).run Try.prog w = .ok (.value (.float .f64 (nanW x w))) w.drew := by
  have h' : FloatKind.f64.format.sqrt x = none := h
  rw [ext95, sqrt_entry, h']
  rfl
theorem nanW_fv (x : Nat) (w : World) : FV (nanW x w) none := ⟨(drawn_nan _).1, (drawn_nan _).2⟩
theorem sqrt_any (x : Nat) (w : World) :
    Calls Try.prog 79 #[.float .f64 x] w fun e w' => ∃ r n, e = .returned (.float .f64 r) ∧ w' = w.drewN n ∧ FV r (sqO (cn x)) := by
  cases h : Ieee.double.sqrt x with
  | none =>
    go_enter Try.func79, Try.ntmps79
    go_wp2
    go_ret
    refine ⟨_, 1, rfl, rfl, ?_⟩
    rw [← sqrt_sqO, h]
    exact nanW_fv _ _
  | some r =>
    go_enter Try.func79, Try.ntmps79
    go_wp2
    go_ret
    refine ⟨_, 0, rfl, rfl, ?_⟩
    rw [← sqrt_sqO, h]
    exact sqrt_fv h

theorem upW_fv (x : Nat) (hx : x < 18446744073709551616) : FV (upW x) ((cn x).map upW) := by
  cases h : isN x
  · have e : cn x = some x := by rw [cn_isN, h]; rfl
    have hl := isN_lt hx h
    have h' : isN (upW x) = false ∧ upW x < 18446744073709551616 := by
      unfold upW
      rw [h, if_neg (by decide)]
      unfold isN at h
      simp at h
      cases h2 : ltF 9218868437227405311 x
      · rw [ltF_max x hx] at h2
        simp at h2
        rw [if_neg (by decide)]
        cases h3 : eqF x 0
        · have hz := eqF_zero x h3 (by unfold isN; simpa using h)
          rw [if_neg (by decide)]
          unfold isN
          split <;> simp <;> omega
        · rw [if_pos rfl]; exact ⟨by decide, by omega⟩
      · rw [if_pos rfl]; exact ⟨by unfold isN; simpa using h, hx⟩
    rw [e]
    exact ⟨by rw [cn_isN, h'.1]; rfl, h'.2⟩
  · have e : cn x = none := by rw [cn_isN, h]; rfl
    have e2 : upW x = x := by unfold upW; rw [if_pos h]
    rw [e, e2]
    exact ⟨e, hx⟩
theorem dnW_fv (x : Nat) (hx : x < 18446744073709551616) : FV (dnW x) ((cn x).map dnW) := by
  cases h : isN x
  · have e : cn x = some x := by rw [cn_isN, h]; rfl
    have hl := isN_lt hx h
    have h' : isN (dnW x) = false ∧ dnW x < 18446744073709551616 := by
      unfold dnW
      rw [h, if_neg (by decide)]
      unfold isN at h
      simp at h
      cases h2 : ltF x 18442240474082181119
      · rw [ltF_low x hx] at h2
        simp at h2
        rw [if_neg (by decide)]
        cases h3 : eqF x 0
        · have hz := eqF_zero x h3 (by unfold isN; simpa using h)
          rw [if_neg (by decide)]
          unfold isN
          split <;> simp <;> omega
        · rw [if_pos rfl]; exact ⟨by decide, by omega⟩
      · rw [if_pos rfl]; exact ⟨by unfold isN; simpa using h, hx⟩
    rw [e]
    exact ⟨by rw [cn_isN, h'.1]; rfl, h'.2⟩
  · have e : cn x = none := by rw [cn_isN, h]; rfl
    have e2 : dnW x = x := by unfold dnW; rw [if_pos h]
    rw [e, e2]
    exact ⟨e, hx⟩
theorem flW_fv (x : Nat) (hx : x < 18446744073709551616) : FV (flW x) ((cn x).map flW) := by
  have hd := dnW_fv x hx
  cases h : isN x
  · have e : cn x = some x := by rw [cn_isN, h]; rfl
    rw [e] at hd ⊢
    show FV (flW x) (some (flW x))
    unfold flW
    split
    · exact ⟨by decide, by omega⟩
    · exact hd
  · have e : cn x = none := by rw [cn_isN, h]; rfl
    rw [e] at hd ⊢
    have hn : isN (dnW x) = true := by
      have := hd.cn
      rw [cn_isN] at this
      cases hh : isN (dnW x)
      · rw [hh] at this; cases this
      · rfl
    have hl : ltF (dnW x) 0 = false := by unfold ltF; rw [hn]; rfl
    unfold flW
    rw [hl]
    exact hd

def upO (o : Option Nat) : Option Nat := o.map upW
def flO (o : Option Nat) : Option Nat := o.map flW
theorem upS_any (x : Nat) (o : Option Nat) (hx : FV x o) (w : World) :
    Calls Try.prog 76 #[.float .f64 x] w fun e w' => ∃ r, e = .returned (.float .f64 r) ∧ w' = w ∧ FV r (upO o) :=
  (up_any x hx.lt w).mono fun e w' h => ⟨_, h.1, h.2, by rw [← hx.cn]; exact upW_fv x hx.lt⟩
theorem rupS_any (x : Nat) (o : Option Nat) (hx : FV x o) (w : World) :
    Calls Try.prog 78 #[.float .f64 x] w fun e w' => ∃ r, e = .returned (.float .f64 r) ∧ w' = w ∧ FV r (upO o) :=
  (rup_any x hx.lt w).mono fun e w' h => ⟨_, h.1, h.2, by rw [← hx.cn]; exact upW_fv x hx.lt⟩
theorem flS_any (x : Nat) (o : Option Nat) (hx : FV x o) (w : World) :
    Calls Try.prog 80 #[.float .f64 x] w fun e w' => ∃ r, e = .returned (.float .f64 r) ∧ w' = w ∧ FV r (flO o) :=
  (fl_any x hx.lt w).mono fun e w' h => ⟨_, h.1, h.2, by rw [← hx.cn]; exact flW_fv x hx.lt⟩
theorem rflS_any (x : Nat) (o : Option Nat) (hx : FV x o) (w : World) :
    Calls Try.prog 81 #[.float .f64 x] w fun e w' => ∃ r, e = .returned (.float .f64 r) ∧ w' = w ∧ FV r (flO o) :=
  (rfl_any x hx.lt w).mono fun e w' h => ⟨_, h.1, h.2, by rw [← hx.cn]; exact flW_fv x hx.lt⟩
theorem sqrtS_any (x : Nat) (o : Option Nat) (hx : FV x o) (w : World) :
    Calls Try.prog 79 #[.float .f64 x] w fun e w' => ∃ r n, e = .returned (.float .f64 r) ∧ w' = w.drewN n ∧ FV r (sqO o) := by
  rw [← hx.cn]; exact sqrt_any x w

def reachO (on : Option Nat → Option Nat) (p q : Option Nat) : Option Nat :=
  on (fo .mul p (on (sqO (on (fo .add (some 4607182418800017408) (on (fo .mul (on (fo .quo q p)) (on (fo .quo q p)))))))))
theorem cn_one : cn 4607182418800017408 = some 4607182418800017408 := by decide
theorem fv_opp {op : BinOp} {x y z : Nat} {o p : Option Nat} (h : FV z (fo op (cn x) (cn y))) (hx : FV x o) (hy : FV y p) : FV z (fo op o p) := by
  rw [← hx.cn, ← hy.cn]; exact h
def hiO (a b : Nat) : Option Nat := if kindN a b = 0 then (if eqF (szQ a b) 0 then cn (szP a b) else reachO upO (cn (szP a b)) (cn (szQ a b))) else some 9218868437227405312
def loO (a b : Nat) : Option Nat := if kindN a b = 0 then (if eqF (szQ a b) 0 then cn (szP a b) else reachO flO (cn (szP a b)) (cn (szQ a b))) else some 0
theorem sz_lt (a b : Nat) : szP a b < 18446744073709551616 ∧ szQ a b < 18446744073709551616 := by
  have h1 : a % 9223372036854775808 < 9223372036854775808 := Nat.mod_lt _ (by omega)
  have h2 : b % 9223372036854775808 < 9223372036854775808 := Nat.mod_lt _ (by omega)
  unfold szP szQ
  constructor <;> split <;> omega
theorem cn_self_inf : cn 9218868437227405312 = some 9218868437227405312 := by decide
theorem cn_self_zero : cn 0 = some 0 := by decide
theorem kind_ne {a b : Nat} (h : kindN a b ≠ 0) : ((kindN a b : Int) != 0) = true := by simpa using h
theorem inf_any (w : World) : Calls Try.prog 73 #[.int .i64 1] w fun e w' => e = .returned (.float .f64 9218868437227405312) ∧ w' = w := by
  go_enter Try.func73, Try.ntmps73
  go_wp2
  go_ret
  exact ⟨rfl, rfl⟩

theorem reachUp_any (p q : Nat) (hp : p < 18446744073709551616) (hq : q < 18446744073709551616) (w : World) :
    Calls Try.prog 75 #[.float .f64 p, .float .f64 q, .func (.func 76) #[] #[]] w fun e w' => ∃ r n, e = .returned (.float .f64 r) ∧ w' = w.drewN n ∧ FV r (reachO upO (cn p) (cn q)) := by
  have fp : FV p (cn p) := ⟨rfl, hp⟩
  have fq : FV q (cn q) := ⟨rfl, hq⟩
  have f1 : FV 4607182418800017408 (some 4607182418800017408) := ⟨cn_one, by omega⟩
  go_enter Try.func75, Try.ntmps75
  go_wp2_with (first | ((with_reducible apply wpList_quo); exact rfl; exact rfl; intro z1 n1 h1))
  refine (upS_any _ _ (fv_opp h1 fq fp) _).mono ?_
  rintro e w' ⟨r1, rfl, rfl, g1⟩
  go_wp2_with (first | ((with_reducible apply wpList_mul); exact rfl; exact rfl; intro z2 n2 h2))
  refine (upS_any _ _ (fv_opp h2 g1 g1) _).mono ?_
  rintro e w' ⟨r2, rfl, rfl, g2⟩
  go_wp2_with (first | ((with_reducible apply wpList_add); exact rfl; exact rfl; intro z3 n3 h3))
  refine (upS_any _ _ (fv_opp h3 f1 g2) _).mono ?_
  rintro e w' ⟨r3, rfl, rfl, g3⟩
  go_wp2_with (go_at_call 79; refine (sqrtS_any _ _ g3 _).mono ?_; rintro e w' ⟨r4, n4, rfl, rfl, g4⟩)
  refine (upS_any _ _ g4 _).mono ?_
  rintro e w' ⟨r5, rfl, rfl, g5⟩
  go_wp2_with (first | ((with_reducible apply wpList_mul); exact rfl; exact rfl; intro z6 n6 h6))
  refine (upS_any _ _ (fv_opp h6 fp g5) _).mono ?_
  rintro e w' ⟨r6, rfl, rfl, g6⟩
  go_wp2_with fail
  go_ret
  exact ⟨_, _, rfl, rfl, g6⟩

theorem reachFl_any (p q : Nat) (hp : p < 18446744073709551616) (hq : q < 18446744073709551616) (w : World) :
    Calls Try.prog 75 #[.float .f64 p, .float .f64 q, .func (.func 80) #[] #[]] w fun e w' => ∃ r n, e = .returned (.float .f64 r) ∧ w' = w.drewN n ∧ FV r (reachO flO (cn p) (cn q)) := by
  have fp : FV p (cn p) := ⟨rfl, hp⟩
  have fq : FV q (cn q) := ⟨rfl, hq⟩
  have f1 : FV 4607182418800017408 (some 4607182418800017408) := ⟨cn_one, by omega⟩
  go_enter Try.func75, Try.ntmps75
  go_wp2_with (first | ((with_reducible apply wpList_quo); exact rfl; exact rfl; intro z1 n1 h1))
  refine (flS_any _ _ (fv_opp h1 fq fp) _).mono ?_
  rintro e w' ⟨r1, rfl, rfl, g1⟩
  go_wp2_with (first | ((with_reducible apply wpList_mul); exact rfl; exact rfl; intro z2 n2 h2))
  refine (flS_any _ _ (fv_opp h2 g1 g1) _).mono ?_
  rintro e w' ⟨r2, rfl, rfl, g2⟩
  go_wp2_with (first | ((with_reducible apply wpList_add); exact rfl; exact rfl; intro z3 n3 h3))
  refine (flS_any _ _ (fv_opp h3 f1 g2) _).mono ?_
  rintro e w' ⟨r3, rfl, rfl, g3⟩
  go_wp2_with (go_at_call 79; refine (sqrtS_any _ _ g3 _).mono ?_; rintro e w' ⟨r4, n4, rfl, rfl, g4⟩)
  refine (flS_any _ _ g4 _).mono ?_
  rintro e w' ⟨r5, rfl, rfl, g5⟩
  go_wp2_with (first | ((with_reducible apply wpList_mul); exact rfl; exact rfl; intro z6 n6 h6))
  refine (flS_any _ _ (fv_opp h6 fp g5) _).mono ?_
  rintro e w' ⟨r6, rfl, rfl, g6⟩
  go_wp2_with fail
  go_ret
  exact ⟨_, _, rfl, rfl, g6⟩

theorem hi_any (a b : Nat) (ha : a < 18446744073709551616) (hb : b < 18446744073709551616) (w : World) :
    Calls Try.prog 15 #[.complex .f64 a b] w fun e w' => ∃ r n, e = .returned (.float .f64 r) ∧ w' = w.drewN n ∧ FV r (hiO a b) := by
  have hl := (sz_lt a b).1
  have hl2 := (sz_lt a b).2
  by_cases hk : kindN a b = 0
  · cases hq : eqF (szQ a b) 0
    · have fp : FV (szP a b) (cn (szP a b)) := ⟨rfl, hl⟩
      go_enter Try.func15, Try.ntmps15
      go_wp2_with (first | (go_at_call 49; refine (kind_any _ _ (by assumption) (by assumption) _).mono ?_; rintro e w' ⟨rfl, rfl⟩; rw [hk]) | (go_at_call 74; refine (sz_any _ _ (by assumption) (by assumption) _).mono ?_; rintro e w' ⟨rfl, rfl⟩) | (go_at_call 75; refine (reachUp_any _ _ (by assumption) (by assumption) _).mono ?_; rintro e w' ⟨r, n, rfl, rfl, g⟩))
      go_ret
      exact ⟨_, _, rfl, rfl, by unfold hiO; rw [if_pos hk, hq]; exact g⟩
    · have fp : FV (szP a b) (cn (szP a b)) := ⟨rfl, hl⟩
      go_enter Try.func15, Try.ntmps15
      go_wp2_with (first | (go_at_call 49; refine (kind_any _ _ (by assumption) (by assumption) _).mono ?_; rintro e w' ⟨rfl, rfl⟩; rw [hk]) | (go_at_call 74; refine (sz_any _ _ (by assumption) (by assumption) _).mono ?_; rintro e w' ⟨rfl, rfl⟩))
      go_ret
      exact ⟨_, 0, rfl, rfl, by unfold hiO; rw [if_pos hk, hq]; exact fp⟩
  · have hk2 := kind_ne hk
    go_enter Try.func15, Try.ntmps15
    go_wp2_with (first | (go_at_call 49; refine (kind_any _ _ (by assumption) (by assumption) _).mono ?_; rintro e w' ⟨rfl, rfl⟩) | (go_at_call 73; refine (inf_any _).mono ?_; rintro e w' ⟨rfl, rfl⟩))
    go_ret
    exact ⟨_, 0, rfl, rfl, by unfold hiO; rw [if_neg hk]; exact ⟨by decide, by omega⟩⟩

theorem lo_any (a b : Nat) (ha : a < 18446744073709551616) (hb : b < 18446744073709551616) (w : World) :
    Calls Try.prog 17 #[.complex .f64 a b] w fun e w' => ∃ r n, e = .returned (.float .f64 r) ∧ w' = w.drewN n ∧ FV r (loO a b) := by
  have hl := (sz_lt a b).1
  have hl2 := (sz_lt a b).2
  by_cases hk : kindN a b = 0
  · cases hq : eqF (szQ a b) 0
    · have fp : FV (szP a b) (cn (szP a b)) := ⟨rfl, hl⟩
      go_enter Try.func17, Try.ntmps17
      go_wp2_with (first | (go_at_call 49; refine (kind_any _ _ (by assumption) (by assumption) _).mono ?_; rintro e w' ⟨rfl, rfl⟩; rw [hk]) | (go_at_call 74; refine (sz_any _ _ (by assumption) (by assumption) _).mono ?_; rintro e w' ⟨rfl, rfl⟩) | (go_at_call 75; refine (reachFl_any _ _ (by assumption) (by assumption) _).mono ?_; rintro e w' ⟨r, n, rfl, rfl, g⟩))
      go_ret
      exact ⟨_, _, rfl, rfl, by unfold loO; rw [if_pos hk, hq]; exact g⟩
    · have fp : FV (szP a b) (cn (szP a b)) := ⟨rfl, hl⟩
      go_enter Try.func17, Try.ntmps17
      go_wp2_with (first | (go_at_call 49; refine (kind_any _ _ (by assumption) (by assumption) _).mono ?_; rintro e w' ⟨rfl, rfl⟩; rw [hk]) | (go_at_call 74; refine (sz_any _ _ (by assumption) (by assumption) _).mono ?_; rintro e w' ⟨rfl, rfl⟩))
      go_ret
      exact ⟨_, 0, rfl, rfl, by unfold loO; rw [if_pos hk, hq]; exact fp⟩
  · have hk2 := kind_ne hk
    go_enter Try.func17, Try.ntmps17
    go_wp2_with (first | (go_at_call 49; refine (kind_any _ _ (by assumption) (by assumption) _).mono ?_; rintro e w' ⟨rfl, rfl⟩) )
    go_ret
    exact ⟨_, 0, rfl, rfl, by unfold loO; rw [if_neg hk]; exact ⟨by decide, by omega⟩⟩

theorem rhi_any (a b : Nat) (ha : a < 18446744073709551616) (hb : b < 18446744073709551616) (w : World) :
    Calls Try.prog 16 #[.complex .f64 a b] w fun e w' => ∃ r n, e = .returned (.float .f64 r) ∧ w' = w.drewN n ∧ FV r (hiO a b) := by
  have hl := (sz_lt a b).1
  have hl2 := (sz_lt a b).2
  by_cases hk : kindN a b = 0
  · cases hq : eqF (szQ a b) 0
    · have fp : FV (szP a b) (cn (szP a b)) := ⟨rfl, hl⟩
      have fq : FV (szQ a b) (cn (szQ a b)) := ⟨rfl, hl2⟩
      have f1 : FV 4607182418800017408 (some 4607182418800017408) := ⟨cn_one, by omega⟩
      go_enter Try.func16, Try.ntmps16
      go_wp2_with (first | (go_at_call 50; refine (rkind_any _ _ (by assumption) (by assumption) _).mono ?_; rintro e w' ⟨rfl, rfl⟩; rw [hk]) | (go_at_call 77; refine (rsz_any _ _ (by assumption) (by assumption) _).mono ?_; rintro e w' ⟨rfl, rfl⟩) | ((with_reducible apply wpList_quo); exact rfl; exact rfl; intro z1 n1 h1))
      refine (rupS_any _ _ (fv_opp h1 fq fp) _).mono ?_
      rintro e w' ⟨r1, rfl, rfl, g1⟩
      go_wp2_with (first | ((with_reducible apply wpList_mul); exact rfl; exact rfl; intro z2 n2 h2))
      refine (rupS_any _ _ (fv_opp h2 g1 g1) _).mono ?_
      rintro e w' ⟨r2, rfl, rfl, g2⟩
      go_wp2_with (first | ((with_reducible apply wpList_add); exact rfl; exact rfl; intro z3 n3 h3))
      refine (rupS_any _ _ (fv_opp h3 f1 g2) _).mono ?_
      rintro e w' ⟨r3, rfl, rfl, g3⟩
      go_wp2_with (go_at_call 79; refine (sqrtS_any _ _ g3 _).mono ?_; rintro e w' ⟨r4, n4, rfl, rfl, g4⟩)
      refine (rupS_any _ _ g4 _).mono ?_
      rintro e w' ⟨r5, rfl, rfl, g5⟩
      go_wp2_with (first | ((with_reducible apply wpList_mul); exact rfl; exact rfl; intro z6 n6 h6))
      refine (rupS_any _ _ (fv_opp h6 fp g5) _).mono ?_
      rintro e w' ⟨r6, rfl, rfl, g6⟩
      go_wp2_with fail
      go_ret
      exact ⟨_, _, rfl, rfl, by unfold hiO; rw [if_pos hk, hq]; exact g6⟩
    · have fp : FV (szP a b) (cn (szP a b)) := ⟨rfl, hl⟩
      go_enter Try.func16, Try.ntmps16
      go_wp2_with (first | (go_at_call 50; refine (rkind_any _ _ (by assumption) (by assumption) _).mono ?_; rintro e w' ⟨rfl, rfl⟩; rw [hk]) | (go_at_call 77; refine (rsz_any _ _ (by assumption) (by assumption) _).mono ?_; rintro e w' ⟨rfl, rfl⟩))
      go_ret
      exact ⟨_, 0, rfl, rfl, by unfold hiO; rw [if_pos hk, hq]; exact fp⟩
  · have hk2 := kind_ne hk
    go_enter Try.func16, Try.ntmps16
    go_wp2_with (first | (go_at_call 50; refine (rkind_any _ _ (by assumption) (by assumption) _).mono ?_; rintro e w' ⟨rfl, rfl⟩) | (go_at_call 73; refine (inf_any _).mono ?_; rintro e w' ⟨rfl, rfl⟩))
    go_ret
    exact ⟨_, 0, rfl, rfl, by unfold hiO; rw [if_neg hk]; exact ⟨by decide, by omega⟩⟩

theorem rlo_any (a b : Nat) (ha : a < 18446744073709551616) (hb : b < 18446744073709551616) (w : World) :
    Calls Try.prog 18 #[.complex .f64 a b] w fun e w' => ∃ r n, e = .returned (.float .f64 r) ∧ w' = w.drewN n ∧ FV r (loO a b) := by
  have hl := (sz_lt a b).1
  have hl2 := (sz_lt a b).2
  by_cases hk : kindN a b = 0
  · cases hq : eqF (szQ a b) 0
    · have fp : FV (szP a b) (cn (szP a b)) := ⟨rfl, hl⟩
      have fq : FV (szQ a b) (cn (szQ a b)) := ⟨rfl, hl2⟩
      have f1 : FV 4607182418800017408 (some 4607182418800017408) := ⟨cn_one, by omega⟩
      go_enter Try.func18, Try.ntmps18
      go_wp2_with (first | (go_at_call 50; refine (rkind_any _ _ (by assumption) (by assumption) _).mono ?_; rintro e w' ⟨rfl, rfl⟩; rw [hk]) | (go_at_call 77; refine (rsz_any _ _ (by assumption) (by assumption) _).mono ?_; rintro e w' ⟨rfl, rfl⟩) | ((with_reducible apply wpList_quo); exact rfl; exact rfl; intro z1 n1 h1))
      refine (rflS_any _ _ (fv_opp h1 fq fp) _).mono ?_
      rintro e w' ⟨r1, rfl, rfl, g1⟩
      go_wp2_with (first | ((with_reducible apply wpList_mul); exact rfl; exact rfl; intro z2 n2 h2))
      refine (rflS_any _ _ (fv_opp h2 g1 g1) _).mono ?_
      rintro e w' ⟨r2, rfl, rfl, g2⟩
      go_wp2_with (first | ((with_reducible apply wpList_add); exact rfl; exact rfl; intro z3 n3 h3))
      refine (rflS_any _ _ (fv_opp h3 f1 g2) _).mono ?_
      rintro e w' ⟨r3, rfl, rfl, g3⟩
      go_wp2_with (go_at_call 79; refine (sqrtS_any _ _ g3 _).mono ?_; rintro e w' ⟨r4, n4, rfl, rfl, g4⟩)
      refine (rflS_any _ _ g4 _).mono ?_
      rintro e w' ⟨r5, rfl, rfl, g5⟩
      go_wp2_with (first | ((with_reducible apply wpList_mul); exact rfl; exact rfl; intro z6 n6 h6))
      refine (rflS_any _ _ (fv_opp h6 fp g5) _).mono ?_
      rintro e w' ⟨r6, rfl, rfl, g6⟩
      go_wp2_with fail
      go_ret
      exact ⟨_, _, rfl, rfl, by unfold loO; rw [if_pos hk, hq]; exact g6⟩
    · have fp : FV (szP a b) (cn (szP a b)) := ⟨rfl, hl⟩
      go_enter Try.func18, Try.ntmps18
      go_wp2_with (first | (go_at_call 50; refine (rkind_any _ _ (by assumption) (by assumption) _).mono ?_; rintro e w' ⟨rfl, rfl⟩; rw [hk]) | (go_at_call 77; refine (rsz_any _ _ (by assumption) (by assumption) _).mono ?_; rintro e w' ⟨rfl, rfl⟩))
      go_ret
      exact ⟨_, 0, rfl, rfl, by unfold loO; rw [if_pos hk, hq]; exact fp⟩
  · have hk2 := kind_ne hk
    go_enter Try.func18, Try.ntmps18
    go_wp2_with (first | (go_at_call 50; refine (rkind_any _ _ (by assumption) (by assumption) _).mono ?_; rintro e w' ⟨rfl, rfl⟩) | (go_at_call 73; refine (inf_any _).mono ?_; rintro e w' ⟨rfl, rfl⟩))
    go_ret
    exact ⟨_, 0, rfl, rfl, by unfold loO; rw [if_neg hk]; exact ⟨by decide, by omega⟩⟩

end Go.Proofs.Ytoihdhmgjfoclaa
