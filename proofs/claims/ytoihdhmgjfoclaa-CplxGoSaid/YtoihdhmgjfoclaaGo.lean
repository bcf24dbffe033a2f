/- 5.11: whatever two numbers: Equal as Go's own ==; Make of Cut is like; Add, Sub, Neg of numbers without NaNs are like what Go's own operators answer; Narrow of Widen is like. Conditions: none. -/
import Derived.Test.YtoihdhmgjfoclaaLa
import Derived.Test.YtoihdhmgjfoclaaNarrow
import Derived.Deep.QuietTactic
import Derived.BigQuiet
namespace Go.Proofs.Ytoihdhmgjfoclaa
open Go.ChangeShapes Go.WideShapes Go.ChangeAt Go.RowKit Go.Joins
set_option linter.unusedVariables false
theorem pcut_any (x : Nat) (w : World) :
    Calls Try.prog 84 #[.float .f64 x] w fun e w' => e = .returned (.int .u64 (bitsW x : Nat)) ∧ w' = w := by
  cases hx : isN x
  · go_enter Try.func84, Try.ntmps84
    go_wp2
    go_ret
    exact ⟨ret_i (by unfold bitsW; rw [if_neg (by rw [hx]; decide)]), rfl⟩
  · go_enter Try.func84, Try.ntmps84
    go_wp2
    go_ret
    exact ⟨ret_i (by unfold bitsW; rw [if_pos hx]; rfl), rfl⟩
theorem cut_any (a b : Nat) (w : World) :
    Calls Try.prog 45 #[.complex .f64 a b] w fun e w' => e = .returned (.agg #[.int .u64 (bitsW a : Nat), .int .u64 (bitsW b : Nat)]) ∧ w' = w.alloc (.cells #[.int .u64 (bitsW a : Nat), .int .u64 (bitsW b : Nat)] 24) := by
  go_enter Try.func45, Try.ntmps45
  go_wp2_with (go_at_call 84; refine (pcut_any _ _).mono ?_; rintro e w' ⟨rfl, rfl⟩)
  exact bodyPost_ret (v := .agg #[.int .u64 (bitsW a : Nat), .int .u64 (bitsW b : Nat)]) (by simp [results, Try.results45, go_sem]) rfl ⟨rfl, rfl⟩
theorem make_any (a b : Int) (w : World) :
    Calls Try.prog 44 #[.agg #[.int .u64 a, .int .u64 b]] w fun e w' => ∃ n, e = .returned (.complex .f64 a.toNat b.toNat) ∧ w' = (w.alloc (.cells #[.int .u64 a, .int .u64 b] 24)).drewN n := by
  go_enter Try.func44, Try.ntmps44
  go_wp2_with fail
  go_quiet (fail)
  go_wp2
  go_ret
  exact ⟨_, rfl, rfl⟩

theorem cn_bitsW (x : Nat) : cn (bitsW x) = cn x := by
  have hn : isN 9221120237041090560 = true := by decide
  unfold bitsW
  cases h : isN x
  · rw [if_neg (by decide)]
  · rw [if_pos rfl, cn_isN, cn_isN, h, hn]; rfl
theorem addR_f {a b c d re : Nat} {W : World} (h : FV re (addR (cn a) (cn b) (cn c) (cn d))) : cn re = cn (fVal .add a c W) := h.cn.trans (fVal_fv a c W).cn.symm
theorem addI_f {a b c d im : Nat} {W : World} (h : FV im (addI (cn a) (cn b) (cn c) (cn d))) : cn im = cn (fVal .add b d W) := h.cn.trans (fVal_fv b d W).cn.symm
theorem subR_f {a b c d re : Nat} {W : World} (h : FV re (subR (cn a) (cn b) (cn c) (cn d))) : cn re = cn (fVal .sub a c W) := h.cn.trans (fVal_fv a c W).cn.symm
theorem subI_f {a b c d im : Nat} {W : World} (h : FV im (subI (cn a) (cn b) (cn c) (cn d))) : cn im = cn (fVal .sub b d W) := h.cn.trans (fVal_fv b d W).cn.symm
theorem ng_f {a : Nat} (h : a < 18446744073709551616) : cn (ng a) = cn (Op.negFloat .f64 a) := by rw [negFloat_ng h]
theorem equal_ord (a b c d : Nat) (w : World) :
    Calls Try.prog 43 #[.complex .f64 a b, .complex .f64 c d] w fun e w' => e = .returned (.bool ((FloatKind.f64.format.order a c == some .eq) && (FloatKind.f64.format.order b d == some .eq))) ∧ w' = w :=
  (equal_any a b c d w).mono fun e w' h => by rw [order_eq, order_eq]; exact h
theorem grown_drewN {a b : World} (h : Grown a b) (n : Nat) : Grown a (b.drewN n) := h
set_option maxHeartbeats 2000000 in
theorem law_go (a b : Int) (ha : 0 ≤ a ∧ a < 18446744073709551616) (hb : 0 ≤ b ∧ b < 18446744073709551616) (c d : Int) (hc : 0 ≤ c ∧ c < 18446744073709551616) (hd : 0 ≤ d ∧ d < 18446744073709551616) (w : World) :
    Calls Try.prog 8 #[.agg #[.int .u64 a, .int .u64 b], .agg #[.int .u64 c, .int .u64 d]] w fun e w' => e = .returned (.bool true) ∧ Grown w w' := by
  have na : a.toNat < 18446744073709551616 := by omega
  have nb : b.toNat < 18446744073709551616 := by omega
  have nc : c.toNat < 18446744073709551616 := by omega
  have nd : d.toNat < 18446744073709551616 := by omega
  clear ha hb hc hd
  go_enter Try.func8, Try.ntmps8
  go_wp2_with fail
  go_quiet ((go_at_call 13; exact Calls.quiet_of_same (of_any _ _ _)))
  generalize a.toNat = a at *
  generalize b.toNat = b at *
  generalize c.toNat = c at *
  generalize d.toNat = d at *
  cases g1 : (!isN a && !isN b)
  · go_wp2_with (first | (go_at_call 43; refine (equal_ord _ _ _ _ _).mono ?_; rintro e w' ⟨rfl, rfl⟩) | (go_at_call 45; refine (cut_any _ _ _).mono ?_; rintro e w' ⟨rfl, rfl⟩) | (go_at_call 44; refine (make_any _ _ _).mono ?_; rintro e w' ⟨n, rfl, rfl⟩; simp only [Int.toNat_natCast]) | (go_at_call 46; refine (whole_any _ _ _).mono ?_; rintro e w' ⟨rfl, rfl⟩) | (go_at_call 47; refine (add_any _ _ _ _ _).mono ?_; rintro e w' ⟨re, im, n, rfl, rfl, h1, h2⟩) | (go_at_call 48; refine (sub_any _ _ _ _ _).mono ?_; rintro e w' ⟨re, im, n, rfl, rfl, h1, h2⟩) | (go_at_call 25; refine (neg_any _ _ (by assumption) (by assumption) _).mono ?_; rintro e w' ⟨rfl, rfl⟩) | (go_at_call 24; first | ((with_reducible refine (same_yes _ _ _ _ _ (addR_f h1) (addI_f h2)).mono ?_); rintro e w' ⟨rfl, rfl⟩; clear h1 h2) | ((with_reducible refine (same_yes _ _ _ _ _ (subR_f h1) (subI_f h2)).mono ?_); rintro e w' ⟨rfl, rfl⟩; clear h1 h2) | ((with_reducible refine (same_yes _ _ _ _ _ (cn_bitsW _) (cn_bitsW _)).mono ?_); rintro e w' ⟨rfl, rfl⟩) | ((with_reducible refine (same_yes _ _ _ _ _ (ng_f (by assumption)) (ng_f (by assumption))).mono ?_); rintro e w' ⟨rfl, rfl⟩)) | (go_at_call 32; first | (refine (narrow_any _ _ _).mono ?_; rintro e w' ⟨ra, rb, n5, rfl, rfl, k5, k6⟩; have _tk := k1) | (refine (narrow_any _ _ _).mono ?_; rintro e w' ⟨na1, nb1, n3, rfl, rfl, k1, k2⟩; have l1 := k1.lt; have l2 := k2.lt)) | (go_at_call 34; refine (widen_any _ _ l1 l2 _).mono ?_; rintro e w' ⟨da, db, n4, rfl, rfl, k3, k4⟩) | (go_at_call 36; refine (same64_back _ _ l1 l2 _ _ _ _ k3 k4 k5 k6 _).mono ?_; rintro e w' ⟨n6, rfl, rfl⟩) | (go_at_call 19; refine (awake_any _).mono ?_; rintro e w' ⟨rfl, hg⟩))
    go_ret
    exact ⟨rfl, grown_trans (by repeat (first | exact Grown.refl _ | refine grown_drewN ?_ _ | refine Grown.alloc ?_ _ _)) hg⟩
  · cases g2 : (!isN c && !isN d)
    · go_wp2_with (first | (go_at_call 43; refine (equal_ord _ _ _ _ _).mono ?_; rintro e w' ⟨rfl, rfl⟩) | (go_at_call 45; refine (cut_any _ _ _).mono ?_; rintro e w' ⟨rfl, rfl⟩) | (go_at_call 44; refine (make_any _ _ _).mono ?_; rintro e w' ⟨n, rfl, rfl⟩; simp only [Int.toNat_natCast]) | (go_at_call 46; refine (whole_any _ _ _).mono ?_; rintro e w' ⟨rfl, rfl⟩) | (go_at_call 47; refine (add_any _ _ _ _ _).mono ?_; rintro e w' ⟨re, im, n, rfl, rfl, h1, h2⟩) | (go_at_call 48; refine (sub_any _ _ _ _ _).mono ?_; rintro e w' ⟨re, im, n, rfl, rfl, h1, h2⟩) | (go_at_call 25; refine (neg_any _ _ (by assumption) (by assumption) _).mono ?_; rintro e w' ⟨rfl, rfl⟩) | (go_at_call 24; first | ((with_reducible refine (same_yes _ _ _ _ _ (addR_f h1) (addI_f h2)).mono ?_); rintro e w' ⟨rfl, rfl⟩; clear h1 h2) | ((with_reducible refine (same_yes _ _ _ _ _ (subR_f h1) (subI_f h2)).mono ?_); rintro e w' ⟨rfl, rfl⟩; clear h1 h2) | ((with_reducible refine (same_yes _ _ _ _ _ (cn_bitsW _) (cn_bitsW _)).mono ?_); rintro e w' ⟨rfl, rfl⟩) | ((with_reducible refine (same_yes _ _ _ _ _ (ng_f (by assumption)) (ng_f (by assumption))).mono ?_); rintro e w' ⟨rfl, rfl⟩)) | (go_at_call 32; first | (refine (narrow_any _ _ _).mono ?_; rintro e w' ⟨ra, rb, n5, rfl, rfl, k5, k6⟩; have _tk := k1) | (refine (narrow_any _ _ _).mono ?_; rintro e w' ⟨na1, nb1, n3, rfl, rfl, k1, k2⟩; have l1 := k1.lt; have l2 := k2.lt)) | (go_at_call 34; refine (widen_any _ _ l1 l2 _).mono ?_; rintro e w' ⟨da, db, n4, rfl, rfl, k3, k4⟩) | (go_at_call 36; refine (same64_back _ _ l1 l2 _ _ _ _ k3 k4 k5 k6 _).mono ?_; rintro e w' ⟨n6, rfl, rfl⟩) | (go_at_call 19; refine (awake_any _).mono ?_; rintro e w' ⟨rfl, hg⟩))
      go_ret
      exact ⟨rfl, grown_trans (by repeat (first | exact Grown.refl _ | refine grown_drewN ?_ _ | refine Grown.alloc ?_ _ _)) hg⟩
    · go_wp2_with (first | (go_at_call 43; refine (equal_ord _ _ _ _ _).mono ?_; rintro e w' ⟨rfl, rfl⟩) | (go_at_call 45; refine (cut_any _ _ _).mono ?_; rintro e w' ⟨rfl, rfl⟩) | (go_at_call 44; refine (make_any _ _ _).mono ?_; rintro e w' ⟨n, rfl, rfl⟩; simp only [Int.toNat_natCast]) | (go_at_call 46; refine (whole_any _ _ _).mono ?_; rintro e w' ⟨rfl, rfl⟩) | (go_at_call 47; refine (add_any _ _ _ _ _).mono ?_; rintro e w' ⟨re, im, n, rfl, rfl, h1, h2⟩) | (go_at_call 48; refine (sub_any _ _ _ _ _).mono ?_; rintro e w' ⟨re, im, n, rfl, rfl, h1, h2⟩) | (go_at_call 25; refine (neg_any _ _ (by assumption) (by assumption) _).mono ?_; rintro e w' ⟨rfl, rfl⟩) | (go_at_call 24; first | ((with_reducible refine (same_yes _ _ _ _ _ (addR_f h1) (addI_f h2)).mono ?_); rintro e w' ⟨rfl, rfl⟩; clear h1 h2) | ((with_reducible refine (same_yes _ _ _ _ _ (subR_f h1) (subI_f h2)).mono ?_); rintro e w' ⟨rfl, rfl⟩; clear h1 h2) | ((with_reducible refine (same_yes _ _ _ _ _ (cn_bitsW _) (cn_bitsW _)).mono ?_); rintro e w' ⟨rfl, rfl⟩) | ((with_reducible refine (same_yes _ _ _ _ _ (ng_f (by assumption)) (ng_f (by assumption))).mono ?_); rintro e w' ⟨rfl, rfl⟩)) | (go_at_call 32; first | (refine (narrow_any _ _ _).mono ?_; rintro e w' ⟨ra, rb, n5, rfl, rfl, k5, k6⟩; have _tk := k1) | (refine (narrow_any _ _ _).mono ?_; rintro e w' ⟨na1, nb1, n3, rfl, rfl, k1, k2⟩; have l1 := k1.lt; have l2 := k2.lt)) | (go_at_call 34; refine (widen_any _ _ l1 l2 _).mono ?_; rintro e w' ⟨da, db, n4, rfl, rfl, k3, k4⟩) | (go_at_call 36; refine (same64_back _ _ l1 l2 _ _ _ _ k3 k4 k5 k6 _).mono ?_; rintro e w' ⟨n6, rfl, rfl⟩) | (go_at_call 19; refine (awake_any _).mono ?_; rintro e w' ⟨rfl, hg⟩))
      go_ret
      exact ⟨rfl, grown_trans (by repeat (first | exact Grown.refl _ | refine grown_drewN ?_ _ | refine Grown.alloc ?_ _ _)) hg⟩

set_option maxRecDepth 100000 in
theorem cplxGo_lifted (os : Os) (started : os.Started) (H : Type) (enc : TypeId × Value → H) :
    ReturnsInHanded {} Try.checked os 8 .any (Rows.cplxGoSpec.pre6 enc Try.prog Try.f8 Rows.cplxGoRow.domain false) (Rows.cplxGoSpec.post enc Try.prog Try.f8 false true false false) := by
  refine returnsInHanded_of_change (C := Try.checked) Try.own started (by kernel_rfl) Try.func8
    (ChangeSpec.witness6 (enc := enc) (C := Try.checked) false ⟨#[], #[.agg #[.int .u64 0, .int .u64 0], .agg #[.int .u64 0, .int .u64 0]], []⟩ 8 (by kernel_rfl) (by kernel_rfl) (by kernel_rfl) (by kernel_rfl)) ?_
  intro W base args ds gs before hval0 hW hcnd _
  have hval : ∀ (j : Nat) t v, Try.f8.params[j]? = some t → args[j]? = some v → Value.okWide Try.prog W .any base t v := hval0
  have hW' := hW
  obtain ⟨p, q, hA0, hV, rfl, hfz, hnd⟩ := hW
  have hA : DataW.TrodAll enc Try.prog W 0 (fun _ => true) true Try.f8.params.toList args.toList ds p := hA0
  rw [Try.params8] at hA hval
  obtain ⟨v0, vs0, d0, ds0, p0, q0, hargs, rfl, rfl, h0, r0⟩ := trodAll_cons hA
  obtain ⟨v1, vs1, d1, ds1, p1, q1, rfl, rfl, rfl, h1, r1⟩ := trodAll_cons r0
  obtain ⟨rfl, rfl, rfl⟩ := trodAll_nil r1
  obtain rfl : args = #[v0, v1] := by cases args; simp_all
  obtain ⟨rfl, rfl⟩ := trodVars_none hV
  obtain ⟨c0, e0, y0, z0, m0, rfl, rfl, rfl, hy0, hz0⟩ := open_agg2 Try.underlying24 (by kernel_rfl) Try.cells24 (hval 0 24 v0 rfl rfl) h0
  obtain ⟨a0, ea0, rfl, wa0⟩ := DataW.trod_int Try.underlying22 hy0
  obtain ⟨b0, eb0, rfl, wb0⟩ := DataW.trod_int Try.underlying22 hz0
  simp at ea0 eb0
  subst ea0 eb0
  obtain ⟨c1, e1, y1, z1, m1, rfl, rfl, rfl, hy1, hz1⟩ := open_agg2 Try.underlying24 (by kernel_rfl) Try.cells24 (hval 1 24 v1 rfl rfl) h1
  obtain ⟨a1, ea1, rfl, wa1⟩ := DataW.trod_int Try.underlying22 hy1
  obtain ⟨b1, eb1, rfl, wb1⟩ := DataW.trod_int Try.underlying22 hz1
  simp at ea1 eb1
  subst ea1 eb1
  clear hA0 hval0
  simp only [List.append_nil] at hW'
  refine (law_go a0 b0 (u64_bd wa0) (u64_bd wb0) a1 b1 (u64_bd wa1) (u64_bd wb1) W).mono fun e W' ⟨he, hg⟩ => ?_
  subst he
  exact ⟨_, rfl, post_of_same (pa := []) (pv := []) hW' (fun _ _ _ => (trodAll_cons_mk (shut_bool Try.underlying4 _) trodAll_mk0)) (fun sp _ => (trodAll_cons_mk (parts_read enc _ sp wa0 wb0) (trodAll_cons_mk (parts_read enc _ sp wa1 wb1) trodAll_mk0))) (fun _ _ => rfl) rfl
    (hg.frame _) hg.2.1 (ok_one (by kernel_rfl) rfl (okWide_bool_mk Try.underlying4 _))⟩

theorem cplxGo_holds : Rows.CplxGoSaid :=
  OpenClaim.holds_of_wide 8 Try.f8 rfl rfl rfl rfl rfl rfl rfl ⟨rfl, rfl, rfl, rfl, rfl⟩ rfl rfl rfl rfl rfl (by kernel_rfl) Try.func8 (by kernel_rfl)
    (of_decide_eq_true (by kernel_rfl)) (by unfold Func.isWrapper; rw [if_neg (of_decide_eq_false (by kernel_rfl))]; exact ⟨rfl, rfl⟩)
    (fun os started H enc _ => cplxGo_lifted os started H enc)
#print axioms cplxGo_holds

end Go.Proofs.Ytoihdhmgjfoclaa
