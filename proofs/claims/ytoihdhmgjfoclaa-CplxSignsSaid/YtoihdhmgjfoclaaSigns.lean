/- 5.10: whatever two numbers: turned and turned back they are like by bits; the conjugate of a product and the product of the conjugates are, part by part, equal or both NaN; a product does not hang on the order. Conditions: none. -/
import Derived.Test.YtoihdhmgjfoclaaLa
import Derived.Test.YtoihdhmgjfoclaaPl
import Derived.Deep.QuietTactic
import Derived.BigQuiet
namespace Go.Proofs.Ytoihdhmgjfoclaa
open Go.ChangeShapes Go.WideShapes Go.ChangeAt Go.RowKit Go.Joins
set_option linter.unusedVariables false

theorem eqOr_of {x y : Nat} (h : EqO (cn x) (cn y)) : eqOrB x y = true := by
  rw [cn_isN, cn_isN] at h
  unfold eqOrB eqF
  cases hx : isN x <;> cases hy : isN y <;> rw [hx, hy] at h <;> first | exact h.elim | skip
  · have h' : key x = key y := h
    simp [h']
  · rfl
theorem eqO_refl (o : Option Nat) : EqO o o := by cases o <;> first | exact True.intro | exact rfl
theorem eqOr_yes (x y : Nat) (w : World) (h : EqO (cn x) (cn y)) :
    Calls Try.prog 29 #[.float .f64 x, .float .f64 y] w fun e w' => e = .returned (.bool true) ∧ w' = w :=
  (equalOr_any x y w).mono fun e w' h' => by rw [eqOr_of h] at h'; exact h'
/-- The conjugate of a product, part by part. -/
theorem conj_mul {a b c d r1 i1 r2 i2 : Nat} (ha : a < 18446744073709551616) (hb : b < 18446744073709551616) (hc : c < 18446744073709551616) (hd : d < 18446744073709551616)
    (h1 : FV r1 (mulR (cn a) (cn b) (cn c) (cn d))) (h2 : FV i1 (mulI (cn a) (cn b) (cn c) (cn d))) (h3 : FV r2 (mulR (cn a) (cn (ng b)) (cn c) (cn (ng d)))) (h4 : FV i2 (mulI (cn a) (cn (ng b)) (cn c) (cn (ng d)))) :
    EqO (cn r1) (cn r2) ∧ EqO (cn (ng i1)) (cn i2) := by
  rw [h1.cn, h3.cn, cn_ng h2.lt, h2.cn, h4.cn, cn_ng hb, cn_ng hd]
  unfold mulR mulI
  constructor
  · rw [mul_nO2 (WO_cn hb) (WO_cn hd)]; exact eqO_refl _
  · rw [mul_nO (WO_cn hb), fo_comm (.inr rfl) (cn a) (nO (cn d)), mul_nO (WO_cn hd), fo_comm (.inr rfl) (cn d) (cn a)]
    have h := add_nO (x := fo .mul (cn a) (cn d)) (y := fo .mul (cn b) (cn c)) fo_lt fo_lt
    revert h
    generalize fo .add (nO (fo .mul (cn a) (cn d))) (nO (fo .mul (cn b) (cn c))) = p
    generalize nO (fo .add (fo .mul (cn a) (cn d)) (fo .mul (cn b) (cn c))) = q
    intro h
    cases p <;> cases q <;> first | exact h | exact h.symm
theorem mul_turned {a b c d r1 i1 r2 i2 : Nat}
    (h1 : FV r1 (mulR (cn a) (cn b) (cn c) (cn d))) (h2 : FV i1 (mulI (cn a) (cn b) (cn c) (cn d))) (h3 : FV r2 (mulR (cn c) (cn d) (cn a) (cn b))) (h4 : FV i2 (mulI (cn c) (cn d) (cn a) (cn b))) :
    cn r1 = cn r2 ∧ cn i1 = cn i2 := by
  rw [h1.cn, h3.cn, h2.cn, h4.cn]
  unfold mulR mulI
  constructor
  · rw [fo_comm (.inr rfl) (cn a) (cn c), fo_comm (.inr rfl) (cn b) (cn d)]
  · rw [fo_comm (.inr rfl) (cn c) (cn b), fo_comm (.inr rfl) (cn d) (cn a), fo_comm (.inl rfl)]
theorem same_ng2 (a b c d : Nat) (w : World) (h1 : c = a) (h2 : d = b) :
    Calls Try.prog 24 #[.complex .f64 a b, .complex .f64 c d] w fun e w' => e = .returned (.bool true) ∧ w' = w :=
  same_yes a b c d w (by rw [h1]) (by rw [h2])

set_option maxHeartbeats 1000000 in
theorem law_signs (a b : Int) (ha : 0 ≤ a ∧ a < 18446744073709551616) (hb : 0 ≤ b ∧ b < 18446744073709551616) (c d : Int) (hc : 0 ≤ c ∧ c < 18446744073709551616) (hd : 0 ≤ d ∧ d < 18446744073709551616) (w : World) :
    Calls Try.prog 5 #[.agg #[.int .u64 a, .int .u64 b], .agg #[.int .u64 c, .int .u64 d]] w fun e w' => e = .returned (.bool true) ∧ Grown w w' := by
  have na : a.toNat < 18446744073709551616 := by omega
  have nb : b.toNat < 18446744073709551616 := by omega
  have nc : c.toNat < 18446744073709551616 := by omega
  have nd : d.toNat < 18446744073709551616 := by omega
  clear ha hb hc hd
  go_enter Try.func5, Try.ntmps5
  go_wp2_with fail
  go_quiet ((go_at_call 13; exact Calls.quiet_of_same (of_any _ _ _)))
  generalize a.toNat = a at *
  generalize b.toNat = b at *
  generalize c.toNat = c at *
  generalize d.toNat = d at *
  go_wp2_with (first | (go_at_call 25; refine (neg_any _ _ (by first | assumption | exact ng_lt (by assumption)) (by first | assumption | exact ng_lt (by assumption)) _).mono ?_; rintro e w' ⟨rfl, rfl⟩) | (go_at_call 26; refine (conj_any _ _ (by first | assumption | exact ng_lt (by assumption)) _).mono ?_; rintro e w' ⟨rfl, rfl⟩) | (go_at_call 27; refine (turn_any _ _ (by first | assumption | exact ng_lt (by assumption)) _).mono ?_; rintro e w' ⟨rfl, rfl⟩) | (go_at_call 24; refine (same_ng2 _ _ _ _ _ (by first | rfl | (simp only [ng_ng, *]; done)) (by first | rfl | (simp only [ng_ng, *]; done))).mono ?_; rintro e w' ⟨rfl, rfl⟩))
  refine (mul_any _ _ _ _ _).mono ?_
  rintro e w' ⟨r1, i1, m1, rfl, rfl, h1, h2⟩
  go_wp2_with (first | (go_at_call 26; refine (conj_any _ _ (by first | assumption | exact h2.lt) _).mono ?_; rintro e w' ⟨rfl, rfl⟩))
  refine (mul_any _ _ _ _ _).mono ?_
  rintro e w' ⟨r2, i2, m2, rfl, rfl, h3, h4⟩
  have HC := Lib.hid (conj_mul na nb nc nd h1 h2 h3 h4)
  clear h1 h2 h3 h4
  go_wp2_with (first | (go_at_call 29; first | ((with_reducible refine (eqOr_yes _ _ _ HC.out.1).mono ?_); rintro e w' ⟨rfl, rfl⟩) | ((with_reducible refine (eqOr_yes _ _ _ HC.out.2).mono ?_); rintro e w' ⟨rfl, rfl⟩)))
  refine (mul_any _ _ _ _ _).mono ?_
  rintro e w' ⟨r3, i3, m3, rfl, rfl, h1, h2⟩
  go_wp2_with fail
  refine (mul_any _ _ _ _ _).mono ?_
  rintro e w' ⟨r4, i4, m4, rfl, rfl, h3, h4⟩
  have HM := Lib.hid (mul_turned h1 h2 h3 h4)
  clear h1 h2 h3 h4
  go_wp2_with (first | (go_at_call 24; refine (same_yes _ _ _ _ _ HM.out.1 HM.out.2).mono ?_; rintro e w' ⟨rfl, rfl⟩) | (go_at_call 19; refine (awake_any _).mono ?_; rintro e w' ⟨rfl, hg⟩))
  go_ret
  exact ⟨rfl, grown_trans (show Grown w (((w.alloc _).alloc _).drewN _) from ((Grown.refl w).alloc _ _).alloc _ _) hg⟩

set_option maxRecDepth 100000 in
theorem cplxSigns_lifted (os : Os) (started : os.Started) (H : Type) (enc : TypeId × Value → H) :
    ReturnsInHanded {} Try.checked os 5 .any (Rows.cplxSignsSpec.pre6 enc Try.prog Try.f5 Rows.cplxSignsRow.domain false) (Rows.cplxSignsSpec.post enc Try.prog Try.f5 false true false false) := by
  refine returnsInHanded_of_change (C := Try.checked) Try.own started (by kernel_rfl) Try.func5
    (ChangeSpec.witness6 (enc := enc) (C := Try.checked) false ⟨#[], #[.agg #[.int .u64 0, .int .u64 0], .agg #[.int .u64 0, .int .u64 0]], []⟩ 8 (by kernel_rfl) (by kernel_rfl) (by kernel_rfl) (by kernel_rfl)) ?_
  intro W base args ds gs before hval0 hW hcnd _
  have hval : ∀ (j : Nat) t v, Try.f5.params[j]? = some t → args[j]? = some v → Value.okWide Try.prog W .any base t v := hval0
  have hW' := hW
  obtain ⟨p, q, hA0, hV, rfl, hfz, hnd⟩ := hW
  have hA : DataW.TrodAll enc Try.prog W 0 (fun _ => true) true Try.f5.params.toList args.toList ds p := hA0
  rw [Try.params5] at hA hval
  obtain ⟨v0, vs0, d0, ds0, p0, q0, hargs, rfl, rfl, h0, r0⟩ := trodAll_cons hA
  obtain ⟨v1, vs1, d1, ds1, p1, q1, rfl, rfl, rfl, h1, r1⟩ := trodAll_cons r0
  obtain ⟨rfl, rfl, rfl⟩ := trodAll_nil r1
  obtain rfl : args = #[v0, v1] := by cases args; simp_all
  obtain ⟨rfl, rfl⟩ := trodVars_none hV
  obtain ⟨c0, e0, y0, z0, m0, rfl, rfl, rfl, hy0, hz0⟩ := open_agg2 Try.underlying24 (by kernel_rfl) Try.cells24 (hval 0 24 v0 rfl rfl) h0
  obtain ⟨a0, ea0, rfl, wa0⟩ := DataW.trod_int Try.underlying22 hy0
  obtain ⟨b0, eb0, rfl, wb0⟩ := DataW.trod_int Try.underlying22 hz0
  simp at ea0 eb0
  subst ea0 eb0
  obtain ⟨c1, e1, y1, z1, m1, rfl, rfl, rfl, hy1, hz1⟩ := open_agg2 Try.underlying24 (by kernel_rfl) Try.cells24 (hval 1 24 v1 rfl rfl) h1
  obtain ⟨a1, ea1, rfl, wa1⟩ := DataW.trod_int Try.underlying22 hy1
  obtain ⟨b1, eb1, rfl, wb1⟩ := DataW.trod_int Try.underlying22 hz1
  simp at ea1 eb1
  subst ea1 eb1
  clear hA0 hval0
  simp only [List.append_nil] at hW'
  refine (law_signs a0 b0 (u64_bd wa0) (u64_bd wb0) a1 b1 (u64_bd wa1) (u64_bd wb1) W).mono fun e W' ⟨he, hg⟩ => ?_
  subst he
  exact ⟨_, rfl, post_of_same (pa := []) (pv := []) hW' (fun _ _ _ => (trodAll_cons_mk (shut_bool Try.underlying4 _) trodAll_mk0)) (fun sp _ => (trodAll_cons_mk (parts_read enc _ sp wa0 wb0) (trodAll_cons_mk (parts_read enc _ sp wa1 wb1) trodAll_mk0))) (fun _ _ => rfl) rfl
    (hg.frame _) hg.2.1 (ok_one (by kernel_rfl) rfl (okWide_bool_mk Try.underlying4 _))⟩

theorem cplxSigns_holds : Rows.CplxSignsSaid :=
  OpenClaim.holds_of_wide 5 Try.f5 rfl rfl rfl rfl rfl rfl rfl ⟨rfl, rfl, rfl, rfl, rfl⟩ rfl rfl rfl rfl rfl (by kernel_rfl) Try.func5 (by kernel_rfl)
    (of_decide_eq_true (by kernel_rfl)) (by unfold Func.isWrapper; rw [if_neg (of_decide_eq_false (by kernel_rfl))]; exact ⟨rfl, rfl⟩)
    (fun os started H enc _ => cplxSigns_lifted os started H enc)
#print axioms cplxSigns_holds

end Go.Proofs.Ytoihdhmgjfoclaa
