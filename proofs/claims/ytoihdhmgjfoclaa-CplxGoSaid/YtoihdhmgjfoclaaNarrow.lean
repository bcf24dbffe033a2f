/-
  The walks of the narrow numbers; '+', '-' of Go's own on complex numbers.
-/
import Derived.Test.YtoihdhmgjfoclaaF32
import Derived.Test.YtoihdhmgjfoclaaWd
namespace Go.Proofs.Ytoihdhmgjfoclaa
open Go.RowKit

theorem conv_narrow (b : Nat) (w : World) : ∃ r n, (convert 28 41 (.float .f64 b)).run Try.prog w = .ok (.float .f32 r) (w.drewN n) ∧ NR b r := by
  obtain ⟨r, n, h, k⟩ := run_narrow (P := Try.prog) b w
  exact ⟨r, n, by simp [convert, run_underlying Try.underlying28, run_underlying Try.underlying41, h], k⟩
theorem conv_widen (b : Nat) (hb : b < 4294967296) (w : World) : ∃ r n, (convert 41 28 (.float .f32 b)).run Try.prog w = .ok (.float .f64 r) (w.drewN n) ∧ WR b r := by
  obtain ⟨r, n, h, k⟩ := run_widen (P := Try.prog) b hb w
  exact ⟨r, n, by simp [convert, run_underlying Try.underlying28, run_underlying Try.underlying41, h], k⟩

section
variable {w : World} {ops : Array Oper} {rest : List Oper} {a : Act} {Q : Exit → Act → World → Prop} {d : Option Tmp} {ty : TypeId} {x : Operand} {pos : String} {after : Array Edge} {b : Nat}
theorem wpList_narrow (hx : a.eval x = .float .f64 b)
    (hK : ∀ r n, NR b r → wpList Try.prog ops Q rest (a.put d (.float .f32 r)) (w.drewN n)) :
    wpList Try.prog ops Q (⟨d, .convert 28 41 x, ty, pos, after, none⟩ :: rest) a w := by
  refine wpList_plain rfl fun K hK' => ?_
  obtain ⟨r, n, hrun, hv⟩ := conv_narrow b w
  unfold Oper.wp
  simp [execOp, hx, hrun, Result.andThen]
  exact hK' _ _ (hK r n hv)
theorem wpList_widen (hx : a.eval x = .float .f32 b) (hb : b < 4294967296)
    (hK : ∀ r n, WR b r → wpList Try.prog ops Q rest (a.put d (.float .f64 r)) (w.drewN n)) :
    wpList Try.prog ops Q (⟨d, .convert 41 28 x, ty, pos, after, none⟩ :: rest) a w := by
  refine wpList_plain rfl fun K hK' => ?_
  obtain ⟨r, n, hrun, hv⟩ := conv_widen b hb w
  unfold Oper.wp
  simp [execOp, hx, hrun, Result.andThen]
  exact hK' _ _ (hK r n hv)
end

theorem narrow_any (a b : Nat) (w : World) :
    Calls Try.prog 32 #[.complex .f64 a b] w fun e w' => ∃ re im n, e = .returned (.complex .f32 re im) ∧ w' = w.drewN n ∧ NR a re ∧ NR b im := by
  go_enter Try.func32, Try.ntmps32
  go_wp2_with (first | ((with_reducible apply wpList_narrow); exact rfl; intro z n hz))
  go_ret
  rename_i n1 h1
  exact ⟨_, _, _, rfl, rfl, h1, hz⟩
theorem widen_any (a b : Nat) (ha : a < 4294967296) (hb : b < 4294967296) (w : World) :
    Calls Try.prog 34 #[.complex .f32 a b] w fun e w' => ∃ re im n, e = .returned (.complex .f64 re im) ∧ w' = w.drewN n ∧ WR a re ∧ WR b im := by
  go_enter Try.func34, Try.ntmps34
  go_wp2_with (first | ((with_reducible apply wpList_widen); exact rfl; assumption; intro z n hz))
  go_ret
  rename_i n1 h1
  exact ⟨_, _, _, rfl, rfl, h1, hz⟩
theorem same64_back (a b : Nat) (ha : a < 4294967296) (hb : b < 4294967296) (da db ra rb : Nat) (h1 : WR a da) (h2 : WR b db) (h3 : NR da ra) (h4 : NR db rb) (w : World) :
    Calls Try.prog 36 #[.complex .f32 ra rb, .complex .f32 a b] w fun e w' => ∃ n, e = .returned (.bool true) ∧ w' = w.drewN n := by
  have g1 := h3.lt
  have g2 := h4.lt
  go_enter Try.func36, Try.ntmps36
  go_wp2_with fail
  refine (widen_any _ _ g1 g2 _).mono ?_
  rintro e w' ⟨p1, q1, n1, rfl, rfl, k1, k2⟩
  go_wp2_with fail
  refine (widen_any _ _ ha hb _).mono ?_
  rintro e w' ⟨p2, q2, n2, rfl, rfl, k3, k4⟩
  go_wp2_with (first | (go_at_call 24; refine (same_yes _ _ _ _ _ (back32 ha h1 h3 k1 k3) (back32 hb h2 h4 k2 k4)).mono ?_; rintro e w' ⟨rfl, rfl⟩))
  go_ret
  exact ⟨_, rfl, rfl⟩

/-- A number made of what the tape says where the operation is invalid. -/
def fVal (op : BinOp) (x y : Nat) (w : World) : Nat := match floatBits op .f64 x y with | some r => r | none => Question.cut (.nanBits .f64 x y) (w.tape w.drawn (.nanBits .f64 x y))
def fDraw (op : BinOp) (x y : Nat) : Nat := match floatBits op .f64 x y with | some _ => 0 | none => 1
theorem arithFun {op : BinOp} (h : op = .add ∨ op = .sub) (x y : Nat) (w : World) : (Op.floatArith op .f64 x y).run Try.prog w = .ok (.float .f64 (fVal op x y w)) (w.drewN (fDraw op x y)) := by
  unfold fVal fDraw
  cases hf : floatBits op .f64 x y with
  | some r => exact run_floatArith w hf
  | none =>
    unfold floatBits at hf
    rcases h with rfl | rfl <;> simp only at hf <;> simp only [Op.floatArith, hf, Sem.run_bind, Sem.run_pure, Result.andThen_ok] <;> rfl
theorem fVal_fv {op : BinOp} (x y : Nat) (w : World) : FV (fVal op x y w) (fo op (cn x) (cn y)) := by
  rw [← floatBits_fo]
  unfold fVal
  cases hf : floatBits op .f64 x y with
  | some r =>
    refine ⟨floatBits_cn hf, ?_⟩
    have := floatBits_wf hf
    simpa [Lit.wf] using this
  | none => exact ⟨(drawn_nan _).1, (drawn_nan _).2⟩
@[go_sem] theorem run_cadd (t : TypeId) (a b c d : Nat) (w : World) : (binOp .add t (.complex .f64 a b) (.complex .f64 c d)).run Try.prog w =
    .ok (.complex .f64 (fVal .add a c w) (fVal .add b d (w.drewN (fDraw .add a c)))) (w.drewN (fDraw .add a c + fDraw .add b d)) := by
  simp [binOp, Op.complexOp, Op.Complex.arith, arithFun (.inl rfl)]
@[go_sem] theorem run_csub (t : TypeId) (a b c d : Nat) (w : World) : (binOp .sub t (.complex .f64 a b) (.complex .f64 c d)).run Try.prog w =
    .ok (.complex .f64 (fVal .sub a c w) (fVal .sub b d (w.drewN (fDraw .sub a c)))) (w.drewN (fDraw .sub a c + fDraw .sub b d)) := by
  simp [binOp, Op.complexOp, Op.Complex.arith, arithFun (.inr rfl)]
end Go.Proofs.Ytoihdhmgjfoclaa
