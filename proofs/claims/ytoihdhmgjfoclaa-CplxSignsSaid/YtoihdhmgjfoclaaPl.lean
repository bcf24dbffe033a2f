/-
  Plain laws of the operations on floats: order of the operands, signs. No program in sight.
-/
import Derived.Test.YtoihdhmgjfoclaaFl
namespace Go.Proofs.Ytoihdhmgjfoclaa
open Go.RowKit Ieee

theorem sum_comm (x y : Datum) : x.sum y = y.sum x := by
  cases x with
  | nan s t => cases y <;> rfl
  | infinity s =>
    cases y with
    | nan t u => rfl
    | infinity t => cases s <;> cases t <;> rfl
    | number t n j => rfl
  | number s m i =>
    cases y with
    | nan t u => rfl
    | infinity t => rfl
    | number t n j =>
      simp only [Datum.sum]
      rw [Int.min_comm j i, Int.add_comm (signed t n _), Bool.and_comm t s]

theorem product_comm (x y : Datum) : x.product y = y.product x := by
  cases x with
  | nan s t => cases y <;> rfl
  | infinity s =>
    cases y with
    | nan t u => rfl
    | infinity t => cases s <;> cases t <;> rfl
    | number t n j => cases s <;> cases t <;> rfl
  | number s m i =>
    cases y with
    | nan t u => rfl
    | infinity t => cases s <;> cases t <;> rfl
    | number t n j =>
      simp only [Datum.product]
      rw [Nat.mul_comm n m, Int.add_comm j i, Bool.xor_comm t s]

theorem fo_comm {op : BinOp} (h : op = .add ∨ op = .mul) (x y : Option Nat) : fo op x y = fo op y x := by
  unfold fo
  cases x <;> cases y <;> try rfl
  rename_i a b
  rcases h with rfl | rfl
  · show ((double.read a).sum (double.read b)).map double.write = ((double.read b).sum (double.read a)).map double.write
    rw [sum_comm]
  · show ((double.read a).product (double.read b)).map double.write = ((double.read b).product (double.read a)).map double.write
    rw [product_comm]

theorem read_ng {x : Nat} (h : x < 18446744073709551616) : double.read (ng x) = (double.read x).opposite := by
  have hm : ng x % 9223372036854775808 = x % 9223372036854775808 := by unfold ng; split <;> omega
  have hd : (ng x / 9223372036854775808 % 2 == 1) = !(x / 9223372036854775808 % 2 == 1) := by
    have hx : x / 9223372036854775808 = 0 ∨ x / 9223372036854775808 = 1 := by omega
    have : ng x / 9223372036854775808 = 1 - x / 9223372036854775808 := by unfold ng; split <;> omega
    rw [this]
    rcases hx with e | e <;> rw [e] <;> rfl
  unfold Format.read
  simp only [dsign, hm, hd]
  split
  · rfl
  · split
    · rfl
    · split <;> rfl

theorem ng_word (neg : Bool) (r : Nat) (h : r < 9223372036854775808) : ng (double.word neg r) = double.word (!neg) r := by
  have e1 : double.word true r = 9223372036854775808 + r := by unfold Format.word; rw [dsign, if_pos rfl]
  have e2 : double.word false r = r := by unfold Format.word; rw [if_neg (by decide)]
  cases neg
  · rw [e2, Bool.not_false, e1]; unfold ng; split <;> omega
  · rw [e1, Bool.not_true, e2]; unfold ng; split <;> omega

theorem nearest_ng (neg : Bool) (m : Nat) (p : Int) : double.nearest (!neg) m p = ng (double.nearest neg m p) := by
  unfold Format.nearest
  dsimp only
  have hc : ∀ a b, Toward.even.cut (!neg) a b = Toward.even.cut neg a b := fun a b => rfl
  rw [hc]
  split
  · rw [ng_word _ _ (by omega)]
  · rw [ng_word]
    have := Nat.min_le_right ((max (p + m.log2 - double.fractionBits) double.leastPlace - double.leastPlace).toNat * double.binade + Toward.even.cut neg (m <<< (p - max (p + m.log2 - double.fractionBits) double.leastPlace).toNat) (max (p + m.log2 - double.fractionBits) double.leastPlace - p).toNat) double.infRung
    rw [dinf] at this
    rw [dinf]
    omega

theorem write_opp (d : Datum) (h : d.isNaN = false) : double.write d.opposite = ng (double.write d) := by
  cases d with
  | number neg m p => exact nearest_ng neg m p
  | infinity neg => exact (ng_word neg _ (by rw [dinf]; omega)).symm
  | nan neg f => cases h

/-- The other sign of what a word stands for. -/
def nO (o : Option Nat) : Option Nat := o.map ng

theorem cn_ng {x : Nat} (h : x < 18446744073709551616) : cn (ng x) = nO (cn x) := by
  rw [cn_isN, cn_isN, isN_ng h]
  cases isN x <;> rfl

/-- A value's words lie below 2^64. -/
def WO (o : Option Nat) : Prop := ∀ x, o = some x → x < 18446744073709551616
theorem WO_cn {x : Nat} (h : x < 18446744073709551616) : WO (cn x) := by
  intro y hy; rw [cn_some hy]; exact h

theorem fo_lt {op : BinOp} {x y : Option Nat} : WO (fo op x y) := by
  intro r hr
  unfold fo at hr
  cases x with
  | none => cases hr
  | some a =>
    cases y with
    | none => cases hr
    | some b =>
      have hr' : floatBits op .f64 a b = some r := hr
      have := floatBits_wf hr'
      simpa [Lit.wf] using this

theorem product_opp (x y : Datum) : x.opposite.product y = (x.product y).map Datum.opposite := by
  cases x with
  | nan s t => cases y <;> rfl
  | infinity s =>
    cases y with
    | nan t u => rfl
    | infinity t => cases s <;> cases t <;> rfl
    | number t n j =>
      simp only [Datum.opposite, Datum.product]
      split
      · rfl
      · cases s <;> cases t <;> rfl
  | number s m i =>
    cases y with
    | nan t u => rfl
    | infinity t =>
      simp only [Datum.opposite, Datum.product]
      split
      · rfl
      · cases s <;> cases t <;> rfl
    | number t n j => cases s <;> cases t <;> rfl

theorem mul_nO {x y : Option Nat} (hx : WO x) : fo .mul (nO x) y = nO (fo .mul x y) := by
  cases x with
  | none => rfl
  | some a =>
    cases y with
    | none => rfl
    | some b =>
      show ((double.read (ng a)).product (double.read b)).map double.write = (((double.read a).product (double.read b)).map double.write).map ng
      rw [read_ng (hx a rfl), product_opp]
      cases h : (double.read a).product (double.read b) with
      | none => rfl
      | some d =>
        show some (double.write d.opposite) = some (ng (double.write d))
        rw [write_opp d (product_nan h)]

theorem nO_nO {x : Option Nat} (hx : WO x) : nO (nO x) = x := by
  cases x with
  | none => rfl
  | some a => show some (ng (ng a)) = some a; rw [ng_ng (hx a rfl)]

theorem WO_nO {x : Option Nat} (hx : WO x) : WO (nO x) := by
  intro r hr
  cases x with
  | none => cases hr
  | some a => cases hr; exact ng_lt (hx a rfl)

theorem mul_nO2 {x y : Option Nat} (hx : WO x) (hy : WO y) : fo .mul (nO x) (nO y) = fo .mul x y := by
  rw [mul_nO hx, fo_comm (.inr rfl), mul_nO hy, fo_comm (.inr rfl), nO_nO fo_lt]

/-- Two values are equal as numbers, or both are none. -/
def EqO (x y : Option Nat) : Prop := match x, y with
  | none, none => True
  | some a, some b => key a = key b
  | _, _ => False

theorem key_word0 (s : Bool) : key (double.word s 0) = 0 := by cases s <;> decide

theorem signed_opp (s : Bool) (m k : Nat) : signed (!s) m k = -signed s m k := by
  cases s <;> simp [signed]

theorem add_nO {x y : Option Nat} (hx : WO x) (hy : WO y) : EqO (fo .add (nO x) (nO y)) (nO (fo .add x y)) := by
  cases x with
  | none => exact True.intro
  | some a =>
    cases y with
    | none => exact True.intro
    | some b =>
      show EqO (((double.read (ng a)).sum (double.read (ng b))).map double.write) ((((double.read a).sum (double.read b)).map double.write).map ng)
      rw [read_ng (hx a rfl), read_ng (hy b rfl)]
      generalize double.read a = da
      generalize double.read b = db
      have hk : ∀ d : Datum, d.isNaN = false → EqO (some (double.write d.opposite)) (some (ng (double.write d))) := by
        intro d hd
        rw [write_opp d hd]
        exact rfl
      cases da with
      | nan s t => cases db <;> exact True.intro
      | infinity s =>
        cases db with
        | nan t u => exact True.intro
        | infinity t =>
          cases s <;> cases t <;> first | exact True.intro | exact hk (.infinity _) rfl
        | number t n j => exact hk (.infinity s) rfl
      | number s m i =>
        cases db with
        | nan t u => exact True.intro
        | infinity t => exact hk (.infinity t) rfl
        | number t n j =>
          simp only [Datum.opposite, Datum.sum, signed_opp]
          generalize signed s m (i - min i j).toNat = A
          generalize signed t n (j - min i j).toNat = B
          by_cases hz : A + B = 0
          · have hz' : -A + -B = 0 := by omega
            rw [if_pos hz, if_pos hz', hz, hz']
            show key (double.word _ 0) = key (ng (double.word _ 0))
            rw [ng_word _ _ (by omega), key_word0, key_word0]
          · have hz' : ¬ -A + -B = 0 := by omega
            rw [if_neg hz, if_neg hz']
            have e1 : (-A + -B).natAbs = (A + B).natAbs := by omega
            have e2 : decide (-A + -B < 0) = !decide (A + B < 0) := by
              rw [Bool.eq_iff_iff]; simp; omega
            rw [e1, e2]
            exact hk (.number (decide (A + B < 0)) (A + B).natAbs (min i j)) rfl
end Go.Proofs.Ytoihdhmgjfoclaa
