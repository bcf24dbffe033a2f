/-
  Floats as values up to the bits of a NaN: what the operations of the program give, whatever the tape answers.
-/
import Derived.Test.YtoihdhmgjfoclaaRows
import Derived.WalkKit
import Derived.WalkSpells
import Derived.WalkLawsBesides
import Derived.Handy
import Derived.Test.YtoihdhmgjfoclaaKey
namespace Go.Proofs.Ytoihdhmgjfoclaa
open Go.RowKit

/-- A word is no NaN: itself; a NaN: none. -/
def cn (b : Nat) : Option Nat := if (Ieee.double.read b).isNaN then none else some b

/-- The word r stands for o (none: whatever NaN). -/
structure FV (r : Nat) (o : Option Nat) : Prop where
  cn : cn r = o
  lt : r < 18446744073709551616

/-- An operation on such values. -/
def fo (op : BinOp) (x y : Option Nat) : Option Nat := x.bind fun a => y.bind fun b => floatBits op .f64 a b

theorem read_word_nan (neg : Bool) (rung : Nat) (h : rung ≤ Ieee.double.infRung) : (Ieee.double.read (Ieee.double.word neg rung)).isNaN = false := by
  have hs : Ieee.double.signWeight = 9223372036854775808 := by decide
  have hb : Ieee.double.binade = 4503599627370496 := by decide
  have hi : Ieee.double.infRung = 9218868437227405312 := by decide
  rw [hi] at h
  have hm : Ieee.double.word neg rung % Ieee.double.signWeight = rung := by
    unfold Ieee.Format.word
    rw [hs]
    split <;> omega
  unfold Ieee.Format.read
  simp only [hm, hb, hi]
  split
  · rfl
  · split
    · rfl
    · split
      · rfl
      · omega

theorem nearest_nan (neg : Bool) (m : Nat) (p : Int) : (Ieee.double.read (Ieee.double.nearest neg m p)).isNaN = false := by
  unfold Ieee.Format.nearest
  dsimp only
  split
  · exact read_word_nan _ _ (Nat.zero_le _)
  · exact read_word_nan _ _ (Nat.min_le_right ..)

theorem write_nan (d : Ieee.Datum) (h : d.isNaN = false) : (Ieee.double.read (Ieee.double.write d)).isNaN = false := by
  cases d with
  | number neg m p => exact nearest_nan neg m p
  | infinity neg => exact read_word_nan neg _ (Nat.le_refl _)
  | nan neg f => cases h

theorem sum_nan {x y d : Ieee.Datum} (h : x.sum y = some d) : d.isNaN = false := by
  unfold Ieee.Datum.sum at h
  split at h <;> first | (cases h; done) | skip
  · split at h <;> cases h; rfl
  · cases h; rfl
  · cases h; rfl
  · cases h; rfl

theorem product_nan {x y d : Ieee.Datum} (h : x.product y = some d) : d.isNaN = false := by
  unfold Ieee.Datum.product at h
  split at h <;> first | (cases h; done) | skip
  all_goals first | (cases h; rfl) | (split at h <;> cases h; rfl)

theorem quotient_nan {n : Nat} {x y d : Ieee.Datum} (h : x.quotient n y = some d) : d.isNaN = false := by
  unfold Ieee.Datum.quotient at h
  split at h <;> first | (cases h; done) | skip
  · cases h; rfl
  · cases h; rfl
  · split at h
    · split at h <;> cases h; rfl
    · cases h; rfl

theorem root_nan {n : Nat} {x d : Ieee.Datum} (h : x.root n = some d) : d.isNaN = false := by
  unfold Ieee.Datum.root at h
  split at h <;> first | (cases h; done) | skip
  · split at h <;> cases h; rfl
  · split at h
    · cases h; rfl
    · split at h <;> cases h; rfl

theorem floatBits_cn {op : BinOp} {x y r : Nat} (h : floatBits op .f64 x y = some r) : cn r = some r := by
  have key : ∀ {o : Option Ieee.Datum}, o.map Ieee.double.write = some r → (∀ d, o = some d → d.isNaN = false) → cn r = some r := by
    intro o ho hn
    cases o with
    | none => cases ho
    | some d => cases ho; unfold cn; rw [write_nan d (hn d rfl)]; rfl
  unfold floatBits at h
  split at h
  · exact key h fun d hd => sum_nan hd
  · exact key h fun d hd => sum_nan hd
  · exact key h fun d hd => product_nan hd
  · exact key h fun d hd => quotient_nan hd
  · cases h

/-- A NaN among the operands: no result. -/
theorem floatBits_nan_l {op : BinOp} {x y : Nat} (h : (Ieee.double.read x).isNaN = true) : floatBits op .f64 x y = none := by
  obtain ⟨s, t, e⟩ : ∃ s t, Ieee.double.read x = .nan s t := by
    cases e : Ieee.double.read x <;> simp [e, Ieee.Datum.isNaN] at h ⊢
  have e' : FloatKind.f64.format.read x = .nan s t := e
  unfold floatBits
  split <;> first | rfl | skip
  all_goals simp only [Ieee.Format.add, Ieee.Format.sub, Ieee.Format.mul, Ieee.Format.div, e', Ieee.Datum.sum, Ieee.Datum.product, Ieee.Datum.quotient, Option.map_none]

theorem floatBits_nan_r {op : BinOp} {x y : Nat} (h : (Ieee.double.read y).isNaN = true) : floatBits op .f64 x y = none := by
  obtain ⟨s, t, e⟩ : ∃ s t, Ieee.double.read y = .nan s t := by
    cases e : Ieee.double.read y <;> simp [e, Ieee.Datum.isNaN] at h ⊢
  have e' : FloatKind.f64.format.read y = .nan s t := e
  unfold floatBits
  split <;> first | rfl | skip
  all_goals
    simp only [Ieee.Format.add, Ieee.Format.sub, Ieee.Format.mul, Ieee.Format.div, e', Ieee.Datum.opposite]
    cases FloatKind.f64.format.read x <;> simp only [Ieee.Datum.sum, Ieee.Datum.product, Ieee.Datum.quotient, Option.map_none]

theorem floatBits_fo (op : BinOp) (x y : Nat) : floatBits op .f64 x y = fo op (cn x) (cn y) := by
  unfold fo cn
  cases hx : (Ieee.double.read x).isNaN
  · cases hy : (Ieee.double.read y).isNaN
    · rfl
    · simp [floatBits_nan_r hy]
  · simp [floatBits_nan_l hx]

theorem drawn_nan (t : Nat) : cn ((t % 2) * 2 ^ 63 + 0x7ff0000000000000 + 1 + (t / 2) % (2 ^ 52 - 1)) = none ∧ (t % 2) * 2 ^ 63 + 0x7ff0000000000000 + 1 + (t / 2) % (2 ^ 52 - 1) < 18446744073709551616 := by
  have h1 : t % 2 ≤ 1 := by omega
  have h2 : (t / 2) % (2 ^ 52 - 1) < 4503599627370495 := Nat.mod_lt _ (by decide)
  generalize t % 2 = a at h1 ⊢
  generalize (t / 2) % (2 ^ 52 - 1) = b at h2 ⊢
  refine ⟨?_, by omega⟩
  have hs : Ieee.double.signWeight = 9223372036854775808 := by decide
  have hb : Ieee.double.binade = 4503599627370496 := by decide
  have hi : Ieee.double.infRung = 9218868437227405312 := by decide
  have hm : (a * 2 ^ 63 + 0x7ff0000000000000 + 1 + b) % 9223372036854775808 = 9218868437227405313 + b := by
    have : a = 0 ∨ a = 1 := by omega
    clear hs hb hi
    rcases this with rfl | rfl <;> omega
  have hr : (Ieee.double.read (a * 2 ^ 63 + 0x7ff0000000000000 + 1 + b)).isNaN = true := by
    unfold Ieee.Format.read
    simp only [hs, hb, hi, hm]
    rw [if_neg (by omega), if_neg (by omega), if_neg (by omega)]
    rfl
  unfold cn
  rw [if_pos hr]

section
variable {P : Program}
theorem run_choose_nan (x y : Nat) (w : World) : ∃ r, (choose (.nanBits .f64 x y)).run P w = .ok r w.drew ∧ cn r = none ∧ r < 18446744073709551616 := by
  refine ⟨_, rfl, ?_⟩
  exact drawn_nan _

theorem arithOp {op : BinOp} (h : op = .add ∨ op = .sub ∨ op = .mul ∨ op = .quo) (x y : Nat) (w : World) :
    ∃ r n, (Op.floatArith op .f64 x y).run P w = .ok (.float .f64 r) (w.drewN n) ∧ FV r (floatBits op .f64 x y) := by
  cases hf : floatBits op .f64 x y with
  | some r =>
    refine ⟨r, 0, run_floatArith w hf, floatBits_cn hf, ?_⟩
    have := floatBits_wf hf
    simpa [Lit.wf] using this
  | none =>
    obtain ⟨r, hr, hc, hl⟩ := run_choose_nan (P := P) x y w
    refine ⟨r, 1, ?_, hc, hl⟩
    unfold floatBits at hf
    rcases h with rfl | rfl | rfl | rfl <;> simp only at hf <;> simp only [Op.floatArith, hf, Sem.run_bind, Sem.run_pure, Result.andThen_ok, hr] <;> rfl

theorem arithRun {op : BinOp} (h : op = .add ∨ op = .sub ∨ op = .mul ∨ op = .quo) (t t' ty : TypeId) (d : Option Tmp) (pos : String) (after : Array Edge) (l r : Operand) (x y : Nat) (a : Act) (hl : a.eval l = .float .f64 x) (hr : a.eval r = .float .f64 y) (w : World) :
    ∃ z n, (execOp a.eval ⟨d, .binOp op t l r t', ty, pos, after, none⟩).run P w = .ok (.value (.float .f64 z)) (w.drewN n) ∧ FV z (fo op (cn x) (cn y)) := by
  obtain ⟨z, n, hrun, hv⟩ := arithOp (P := P) h x y w
  have hb : binOp op t (.float .f64 x) (.float .f64 y) = Op.floatArith op .f64 x y := by
    rcases h with rfl | rfl | rfl | rfl <;> rfl
  have he : (eqGuard op t l r (.float .f64 x) (.float .f64 y)).run P w = .ok () w := by
    rcases h with rfl | rfl | rfl | rfl <;> rfl
  rw [floatBits_fo] at hv
  exact ⟨z, n, by simp [execOp, hl, hr, hb, he, hrun, Result.andThen], hv⟩

section
variable {w : World} {ops : Array Oper} {rest : List Oper} {a : Act} {Q : Exit → Act → World → Prop} {d : Option Tmp} {t t' ty : TypeId} {l r : Operand} {pos : String} {after : Array Edge} {x y : Nat}
theorem wpList_arith {op : BinOp} (h : op = .add ∨ op = .sub ∨ op = .mul ∨ op = .quo) (hl : a.eval l = .float .f64 x) (hr : a.eval r = .float .f64 y)
    (hK : ∀ z n, FV z (fo op (cn x) (cn y)) → wpList P ops Q rest (a.put d (.float .f64 z)) (w.drewN n)) :
    wpList P ops Q (⟨d, .binOp op t l r t', ty, pos, after, none⟩ :: rest) a w := by
  refine wpList_plain rfl fun K hK' => ?_
  obtain ⟨z, n, hrun, hv⟩ := arithRun (P := P) h t t' ty d pos after l r x y a hl hr w
  unfold Oper.wp
  rw [hrun]
  exact hK' _ _ (hK z n hv)
/-- THE WALK's LAWS: an arithmetic operation on floats. -/
theorem wpList_add (hl : a.eval l = .float .f64 x) (hr : a.eval r = .float .f64 y)
    (hK : ∀ z n, FV z (fo .add (cn x) (cn y)) → wpList P ops Q rest (a.put d (.float .f64 z)) (w.drewN n)) :
    wpList P ops Q (⟨d, .binOp .add t l r t', ty, pos, after, none⟩ :: rest) a w := wpList_arith (.inl rfl) hl hr hK
theorem wpList_sub (hl : a.eval l = .float .f64 x) (hr : a.eval r = .float .f64 y)
    (hK : ∀ z n, FV z (fo .sub (cn x) (cn y)) → wpList P ops Q rest (a.put d (.float .f64 z)) (w.drewN n)) :
    wpList P ops Q (⟨d, .binOp .sub t l r t', ty, pos, after, none⟩ :: rest) a w := wpList_arith (.inr (.inl rfl)) hl hr hK
theorem wpList_mul (hl : a.eval l = .float .f64 x) (hr : a.eval r = .float .f64 y)
    (hK : ∀ z n, FV z (fo .mul (cn x) (cn y)) → wpList P ops Q rest (a.put d (.float .f64 z)) (w.drewN n)) :
    wpList P ops Q (⟨d, .binOp .mul t l r t', ty, pos, after, none⟩ :: rest) a w := wpList_arith (.inr (.inr (.inl rfl))) hl hr hK
theorem wpList_quo (hl : a.eval l = .float .f64 x) (hr : a.eval r = .float .f64 y)
    (hK : ∀ z n, FV z (fo .quo (cn x) (cn y)) → wpList P ops Q rest (a.put d (.float .f64 z)) (w.drewN n)) :
    wpList P ops Q (⟨d, .binOp .quo t l r t', ty, pos, after, none⟩ :: rest) a w := wpList_arith (.inr (.inr (.inr rfl))) hl hr hK
end
end

/-! ### What a comparison says -/
def cmpO (x y : Option Nat) : Option Ordering := x.bind fun a => y.bind fun b => FloatKind.f64.format.order a b

theorem order_nan_l {x y : Nat} (h : (Ieee.double.read x).isNaN = true) : FloatKind.f64.format.order x y = none := by
  obtain ⟨s, t, e⟩ : ∃ s t, Ieee.double.read x = .nan s t := by
    cases e : Ieee.double.read x <;> simp [e, Ieee.Datum.isNaN] at h ⊢
  have e' : FloatKind.f64.format.read x = .nan s t := e
  simp only [Ieee.Format.order, e', Ieee.Datum.order]

theorem order_nan_r {x y : Nat} (h : (Ieee.double.read y).isNaN = true) : FloatKind.f64.format.order x y = none := by
  obtain ⟨s, t, e⟩ : ∃ s t, Ieee.double.read y = .nan s t := by
    cases e : Ieee.double.read y <;> simp [e, Ieee.Datum.isNaN] at h ⊢
  have e' : FloatKind.f64.format.read y = .nan s t := e
  simp only [Ieee.Format.order, e']
  cases FloatKind.f64.format.read x <;> rfl

theorem order_cmpO (x y : Nat) : FloatKind.f64.format.order x y = cmpO (cn x) (cn y) := by
  unfold cmpO cn
  cases hx : (Ieee.double.read x).isNaN
  · cases hy : (Ieee.double.read y).isNaN
    · rfl
    · simp [order_nan_r hy]
  · simp [order_nan_l hx]

def isN (x : Nat) : Bool := decide (9218868437227405312 < x % 9223372036854775808)
def ltF (x y : Nat) : Bool := !isN x && !isN y && decide (key x < key y)
def eqF (x y : Nat) : Bool := !isN x && !isN y && decide (key x = key y)
def leF (x y : Nat) : Bool := !isN x && !isN y && decide (key x ≤ key y)

theorem isNaN_isN (x : Nat) : (Ieee.double.read x).isNaN = isN x := by
  have := isNaN_iff x
  unfold isN
  cases h : (Ieee.double.read x).isNaN <;> rw [h] at this <;> simp at this ⊢ <;> omega

theorem cn_isN (x : Nat) : cn x = if isN x then none else some x := by
  unfold cn
  rw [isNaN_isN]

theorem order_cases (x y : Nat) : FloatKind.f64.format.order x y = if isN x = false ∧ isN y = false then some (compare (key x) (key y)) else none := by
  cases hx : isN x
  · cases hy : isN y
    · exact order_key (by rw [isNaN_isN, hx]) (by rw [isNaN_isN, hy])
    · exact order_nan_r (by rw [isNaN_isN, hy])
  · exact order_nan_l (by rw [isNaN_isN, hx])

theorem cmp_int (a b : Int) : (compare a b = .lt ↔ a < b) ∧ (compare a b = .eq ↔ a = b) ∧ (compare a b = .gt ↔ b < a) := by
  simp only [compare, compareOfLessAndEq]
  refine ⟨?_, ?_, ?_⟩ <;> (repeat' split) <;> simp <;> omega

theorem order_lt (x y : Nat) : (FloatKind.f64.format.order x y == some .lt) = ltF x y := by
  have := cmp_int (key x) (key y)
  rw [order_cases, ltF]
  cases isN x <;> cases isN y <;> simp
  rw [Bool.eq_iff_iff]; simp [this]
theorem order_gt (x y : Nat) : (FloatKind.f64.format.order x y == some .gt) = ltF y x := by
  have := cmp_int (key x) (key y)
  rw [order_cases, ltF]
  cases isN x <;> cases isN y <;> simp
  rw [Bool.eq_iff_iff]; simp [this]
theorem order_eq (x y : Nat) : (FloatKind.f64.format.order x y == some .eq) = eqF x y := by
  have := cmp_int (key x) (key y)
  rw [order_cases, eqF]
  cases isN x <;> cases isN y <;> simp
  rw [Bool.eq_iff_iff]; simp [this]
theorem order_le (x y : Nat) : (FloatKind.f64.format.order x y == some .lt || FloatKind.f64.format.order x y == some .eq) = leF x y := by
  rw [order_lt, order_eq, ltF, eqF, leF]
  cases isN x <;> cases isN y <;> simp
  rw [Bool.eq_iff_iff]; simp; omega
theorem order_ge (x y : Nat) : (FloatKind.f64.format.order x y == some .gt || FloatKind.f64.format.order x y == some .eq) = leF y x := by
  rw [order_gt, order_eq, ltF, eqF, leF]
  cases isN x <;> cases isN y <;> simp
  rw [Bool.eq_iff_iff]; simp; omega

section
@[go_sem high] theorem fcmp_eql (t : TypeId) (a b : Nat) : binOp .eql t (.float .f64 a) (.float .f64 b) = pure (.bool (eqF a b)) := by rw [binOp_float_cmp_eql, order_eq]
@[go_sem high] theorem fcmp_neq (t : TypeId) (a b : Nat) : binOp .neq t (.float .f64 a) (.float .f64 b) = pure (.bool (!eqF a b)) := by rw [binOp_float_cmp_neq, ← order_eq]; rfl
@[go_sem high] theorem fcmp_lss (t : TypeId) (a b : Nat) : binOp .lss t (.float .f64 a) (.float .f64 b) = pure (.bool (ltF a b)) := by rw [binOp_float_cmp_lss, order_lt]
@[go_sem high] theorem fcmp_leq (t : TypeId) (a b : Nat) : binOp .leq t (.float .f64 a) (.float .f64 b) = pure (.bool (leF a b)) := by rw [binOp_float_cmp_leq, order_le]
@[go_sem high] theorem fcmp_gtr (t : TypeId) (a b : Nat) : binOp .gtr t (.float .f64 a) (.float .f64 b) = pure (.bool (ltF b a)) := by rw [binOp_float_cmp_gtr, order_gt]
@[go_sem high] theorem fcmp_geq (t : TypeId) (a b : Nat) : binOp .geq t (.float .f64 a) (.float .f64 b) = pure (.bool (leF b a)) := by rw [binOp_float_cmp_geq, order_ge]
@[go_sem] theorem eqF_self (a : Nat) : eqF a a = !isN a := by unfold eqF; cases isN a <;> simp
@[go_sem] theorem unary_neg_float (k : FloatKind) (b : Nat) : Op.unary .neg (.float k b) = pure (.float k (Op.negFloat k b)) := rfl
@[go_sem] theorem unary_neg_complex (k : FloatKind) (a b : Nat) : Op.unary .neg (.complex k a b) = pure (.complex k (Op.negFloat k a) (Op.negFloat k b)) := rfl
end

/-! ### bits of words -/
theorem bits_and64 (x y : Nat) (hx : x < 18446744073709551616) (hy : y < 18446744073709551616) : bits .and .u64 (x : Int) (y : Int) = ((x &&& y : Nat) : Int) := by
  have h : x &&& y < 2 ^ 64 := Nat.and_lt_two_pow _ (by omega)
  have key : bits .and .u64 (x : Int) (y : Int) = IntKind.u64.wrap ((BitVec.ofNat 64 x &&& BitVec.ofNat 64 y).toNat : Int) := by
    rw [← BitVec.ofInt_natCast, ← BitVec.ofInt_natCast]; rfl
  rw [key, IntKind.wrap_u64, BitVec.toNat_and, BitVec.toNat_ofNat, BitVec.toNat_ofNat, Nat.mod_eq_of_lt (a := x) (by omega), Nat.mod_eq_of_lt (a := y) (by omega)]
  omega
theorem bits_andNot64 (x y : Nat) (hx : x < 18446744073709551616) (hy : y < 18446744073709551616) : bits .andNot .u64 (x : Int) (y : Int) = ((x &&& (18446744073709551615 - y) : Nat) : Int) := by
  have h : x &&& (18446744073709551615 - y) < 2 ^ 64 := Nat.and_lt_two_pow _ (by omega)
  have key : bits .andNot .u64 (x : Int) (y : Int) = IntKind.u64.wrap ((BitVec.ofNat 64 x &&& ~~~ BitVec.ofNat 64 y).toNat : Int) := by
    rw [← BitVec.ofInt_natCast, ← BitVec.ofInt_natCast]; rfl
  rw [key, IntKind.wrap_u64, BitVec.toNat_and, BitVec.toNat_not, BitVec.toNat_ofNat, BitVec.toNat_ofNat, Nat.mod_eq_of_lt (a := x) (by omega), Nat.mod_eq_of_lt (a := y) (by omega)]
  have e : 2 ^ 64 - 1 - y = 18446744073709551615 - y := by omega
  rw [e]
  omega
theorem bits_xor64 (x y : Nat) (hx : x < 18446744073709551616) (hy : y < 18446744073709551616) : bits .xor .u64 (x : Int) (y : Int) = ((x ^^^ y : Nat) : Int) := by
  have h : x ^^^ y < 2 ^ 64 := Nat.xor_lt_two_pow (by omega) (by omega)
  have key : bits .xor .u64 (x : Int) (y : Int) = IntKind.u64.wrap ((BitVec.ofNat 64 x ^^^ BitVec.ofNat 64 y).toNat : Int) := by
    rw [← BitVec.ofInt_natCast, ← BitVec.ofInt_natCast]; rfl
  rw [key, IntKind.wrap_u64, BitVec.toNat_xor, BitVec.toNat_ofNat, BitVec.toNat_ofNat, Nat.mod_eq_of_lt (a := x) (by omega), Nat.mod_eq_of_lt (a := y) (by omega)]
  omega
@[go_sem] theorem abs_bits (x : Nat) (hx : x < 18446744073709551616) : bits .andNot .u64 (x : Int) 9223372036854775808 = ((x % 9223372036854775808 : Nat) : Int) := by
  rw [show (9223372036854775808 : Int) = ((9223372036854775808 : Nat) : Int) from rfl, bits_andNot64 x _ hx (by omega)]
  rw [show 18446744073709551615 - 9223372036854775808 = 2 ^ 63 - 1 from rfl, Nat.and_two_pow_sub_one_eq_mod]
@[go_sem] theorem sign_bits (x : Nat) (hx : x < 18446744073709551616) : bits .and .u64 (x : Int) 9223372036854775808 = ((x / 9223372036854775808 * 9223372036854775808 : Nat) : Int) := by
  rw [show (9223372036854775808 : Int) = ((9223372036854775808 : Nat) : Int) from rfl, bits_and64 x _ hx (by omega)]
  congr 1
  apply Nat.eq_of_testBit_eq
  intro i
  rw [show (9223372036854775808 : Nat) = 2 ^ 63 from rfl, Nat.testBit_and, Nat.testBit_mul_two_pow, Nat.testBit_div_two_pow, Nat.testBit_two_pow]
  by_cases hi : i = 63
  · subst hi; simp
  · rw [show decide (63 = i) = false by simp; omega, Bool.and_false]
    by_cases h2 : 63 ≤ i
    · rw [show i - 63 + 63 = i by omega, Nat.testBit_lt_two_pow (x := x) (i := i) (Nat.lt_of_lt_of_le (show x < 2 ^ 64 by omega) (Nat.pow_le_pow_right (by omega) (by omega))), Bool.and_false]
    · rw [show decide (63 ≤ i) = false by simp; omega, Bool.false_and]

/-- The other sign. -/
def ng (x : Nat) : Nat := if x < 9223372036854775808 then x + 9223372036854775808 else x - 9223372036854775808

theorem xor63 {x : Nat} (h : x < 18446744073709551616) : x ^^^ 2 ^ 63 = ng x := by
  unfold ng
  split
  · rename_i hl
    have h0 := Nat.two_pow_add_eq_or_of_lt (i := 63) (b := x) (by omega) 1
    apply Nat.eq_of_testBit_eq
    intro i
    rw [show x + 9223372036854775808 = 2 ^ 63 * 1 + x by omega, h0, Nat.testBit_xor, Nat.testBit_or]
    by_cases hi : i = 63
    · subst hi
      rw [Nat.testBit_lt_two_pow (x := x) (i := 63) (by omega)]
      simp
    · simp only [Nat.mul_one]
      rw [Nat.testBit_two_pow_of_ne (by omega)]
      simp
  · rename_i hl
    have h0 := Nat.two_pow_add_eq_or_of_lt (i := 63) (b := x - 9223372036854775808) (by omega) 1
    have e2 : x = 2 ^ 63 * 1 ||| (x - 9223372036854775808) := by rw [← h0]; omega
    apply Nat.eq_of_testBit_eq
    intro i
    rw [Nat.testBit_xor]
    conv => lhs; lhs; rw [e2]
    rw [Nat.testBit_or]
    by_cases hi : i = 63
    · subst hi
      rw [Nat.testBit_lt_two_pow (x := x - 9223372036854775808) (i := 63) (by omega)]
      simp
    · simp only [Nat.mul_one]
      rw [Nat.testBit_two_pow_of_ne (by omega)]
      simp

theorem negFloat_ng {x : Nat} (h : x < 18446744073709551616) : Op.negFloat .f64 x = ng x := by
  have e : (2 : Nat) ^ (FloatKind.f64.format.exponentBits + FloatKind.f64.format.fractionBits) = 2 ^ 63 := by rfl
  unfold Op.negFloat
  rw [e, xor63 h]
theorem ng_lt {x : Nat} (h : x < 18446744073709551616) : ng x < 18446744073709551616 := by unfold ng; split <;> omega
theorem ng_ng {x : Nat} (h : x < 18446744073709551616) : ng (ng x) = x := by unfold ng; split <;> split <;> omega
theorem isN_ng {x : Nat} (h : x < 18446744073709551616) : isN (ng x) = isN x := by unfold isN ng; split <;> exact decide_eq_decide.2 (by omega)
theorem key_ng {x : Nat} (h : x < 18446744073709551616) : key (ng x) = -key x := by unfold key ng; split <;> split <;> split <;> omega

theorem cn_some {x r : Nat} (h : cn x = some r) : r = x := by
  unfold cn at h
  split at h <;> cases h
  rfl

theorem fvIff {r : Nat} {o : Option Nat} : FV r o ↔ cn r = o ∧ r < 18446744073709551616 := ⟨fun h => ⟨h.cn, h.lt⟩, fun h => ⟨h.1, h.2⟩⟩
#print axioms wpList_quo
end Go.Proofs.Ytoihdhmgjfoclaa
