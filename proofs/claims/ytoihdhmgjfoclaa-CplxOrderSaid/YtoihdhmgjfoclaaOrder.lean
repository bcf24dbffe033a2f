/- 5.12: whatever three numbers: Order turned round is the other way; it is 0 just where Same says so; it is transitive. Conditions: none. -/
import Derived.Test.YtoihdhmgjfoclaaLa
import Derived.Test.YtoihdhmgjfoclaaOrd
import Derived.Deep.QuietTactic
import Derived.BigQuiet
namespace Go.Proofs.Ytoihdhmgjfoclaa
open Go.ChangeShapes Go.WideShapes Go.ChangeAt Go.RowKit Go.Joins
set_option linter.unusedVariables false

theorem place_inj {x y : Nat} (ux : x < 18446744073709551616) (uy : y < 18446744073709551616) (h : placeN x = placeN y) : likeB x y = true := by
  rw [likeB_isN]
  unfold placeN at h
  cases hx : isN x <;> cases hy : isN y <;> simp only [hx, hy, Bool.false_eq_true, if_false, if_true] at h ⊢
  · unfold isN at hx hy
    simp at hx hy ⊢
    split at h <;> split at h <;> omega
  · unfold isN at hx
    simp at hx
    split at h <;> omega
  · unfold isN at hy
    simp at hy
    split at h <;> omega
theorem like_place {x y : Nat} (h : likeB x y = true) : placeN x = placeN y := by
  rw [likeB_isN] at h
  cases hx : isN x
  · rw [hx] at h
    have : x = y := by simpa using h
    rw [this]
  · rw [hx] at h
    have hy : isN y = true := by simpa using h
    unfold placeN; rw [hx, hy]; rfl
theorem ordI_zero (a b : Nat) : ordI a b = 0 ↔ a = b := by unfold ordI; split <;> (try split) <;> omega
theorem ordI_turn (a b : Nat) : ordI b a = -ordI a b := by unfold ordI; (repeat' split) <;> omega
theorem ordI_bd (a b : Nat) : -1 ≤ ordI a b ∧ ordI a b ≤ 1 := by unfold ordI; (repeat' split) <;> omega
theorem ordC_bd (a b c d : Nat) : -1 ≤ ordC a b c d ∧ ordC a b c d ≤ 1 := by unfold ordC; split <;> exact ordI_bd _ _
theorem ordC_turn (a b c d : Nat) : ordC c d a b = -ordC a b c d := by
  have h1 := ordI_turn (placeN a) (placeN c)
  have h2 := ordI_turn (placeN b) (placeN d)
  unfold ordC
  split <;> split <;> omega
theorem ordC_zero (a b c d : Nat) (ha : a < 18446744073709551616) (hb : b < 18446744073709551616) (hc : c < 18446744073709551616) (hd : d < 18446744073709551616) : ordC a b c d = 0 ↔ sameB a b c d = true := by
  have h1 := ordI_zero (placeN a) (placeN c)
  have h2 := ordI_zero (placeN b) (placeN d)
  have e : sameB a b c d = true ↔ placeN a = placeN c ∧ placeN b = placeN d := by
    unfold sameB
    rw [Bool.and_eq_true]
    exact ⟨fun h => ⟨like_place h.1, like_place h.2⟩, fun h => ⟨place_inj ha hc h.1, place_inj hb hd h.2⟩⟩
  rw [e]
  unfold ordC
  split
  · constructor
    · intro h; omega
    · intro h; exact h1.2 h.1
  · rename_i k
    have k' : placeN a = placeN c := h1.1 (by omega)
    exact ⟨fun h => ⟨k', h2.1 h⟩, fun h => h2.2 h.2⟩
theorem ordI_le (a b : Nat) : ¬ 0 < ordI a b ↔ a ≤ b := by unfold ordI; (repeat' split) <;> omega
theorem ordC_le (a b c d : Nat) : ¬ 0 < ordC a b c d ↔ (placeN a < placeN c ∨ placeN a = placeN c ∧ placeN b ≤ placeN d) := by
  have h1 := ordI_le (placeN a) (placeN c)
  have h2 := ordI_le (placeN b) (placeN d)
  have h3 := ordI_zero (placeN a) (placeN c)
  unfold ordC
  split <;> omega
theorem ordC_trans {a b c d e f : Nat} (h : ordC a b c d ≤ 0) (k : ordC c d e f ≤ 0) : ordC a b e f ≤ 0 := by
  have h1 := (ordC_le a b c d).1 (by omega)
  have h2 := (ordC_le c d e f).1 (by omega)
  have h3 := (ordC_le a b e f).2 (by omega)
  omega

set_option maxHeartbeats 1000000 in
theorem law_order (a b : Int) (ha : 0 ≤ a ∧ a < 18446744073709551616) (hb : 0 ≤ b ∧ b < 18446744073709551616) (c d : Int) (hc : 0 ≤ c ∧ c < 18446744073709551616) (hd : 0 ≤ d ∧ d < 18446744073709551616) (e f : Int) (he : 0 ≤ e ∧ e < 18446744073709551616) (hf : 0 ≤ f ∧ f < 18446744073709551616) (w : World) :
    Calls Try.prog 10 #[.agg #[.int .u64 a, .int .u64 b], .agg #[.int .u64 c, .int .u64 d], .agg #[.int .u64 e, .int .u64 f]] w fun e w' => e = .returned (.bool true) ∧ Grown w w' := by
  have na : a.toNat < 18446744073709551616 := by omega
  have nb : b.toNat < 18446744073709551616 := by omega
  have nc : c.toNat < 18446744073709551616 := by omega
  have nd : d.toNat < 18446744073709551616 := by omega
  have ne : e.toNat < 18446744073709551616 := by omega
  have nf : f.toNat < 18446744073709551616 := by omega
  clear ha hb hc hd he hf
  go_enter Try.func10, Try.ntmps10
  go_wp2_with fail
  go_quiet ((go_at_call 13; exact Calls.quiet_of_same (of_any _ _ _)))
  generalize a.toNat = a at *
  generalize b.toNat = b at *
  generalize c.toNat = c at *
  generalize d.toNat = d at *
  generalize e.toNat = e at *
  generalize f.toNat = f at *
  have ht := ordC_turn a b c d
  have hbd := ordC_bd a b c d
  have hz : (ordC a b c d == 0) = sameB a b c d := by
    rw [Bool.eq_iff_iff, ← ordC_zero a b c d na nb nc nd]; simp
  have T := Lib.hid (@ordC_trans a b c d e f)
  have hl1 := hbd.1
  have hl2 := hbd.2
  clear hbd
  by_cases g1 : 0 < ordC a b c d
  · clear T
    go_wp2_with (first | (go_at_call 59; refine (order_any _ _ _ _ (by assumption) (by assumption) (by assumption) (by assumption) _).mono ?_; rintro e w' ⟨rfl, rfl⟩) | (go_at_call 24; refine (same_any _ _ _ _ _).mono ?_; rintro e w' ⟨rfl, rfl⟩) | (go_at_call 19; refine (awake_any _).mono ?_; rintro e w' ⟨rfl, hg⟩))
    go_ret
    exact ⟨rfl, grown_trans (show Grown w ((((w.alloc _).alloc _).alloc _).drewN _) from (((Grown.refl w).alloc _ _).alloc _ _).alloc _ _) hg⟩
  · by_cases g2 : 0 < ordC c d e f
    · clear T
      go_wp2_with (first | (go_at_call 59; refine (order_any _ _ _ _ (by assumption) (by assumption) (by assumption) (by assumption) _).mono ?_; rintro e w' ⟨rfl, rfl⟩) | (go_at_call 24; refine (same_any _ _ _ _ _).mono ?_; rintro e w' ⟨rfl, rfl⟩) | (go_at_call 19; refine (awake_any _).mono ?_; rintro e w' ⟨rfl, hg⟩))
      go_ret
      exact ⟨rfl, grown_trans (show Grown w ((((w.alloc _).alloc _).alloc _).drewN _) from (((Grown.refl w).alloc _ _).alloc _ _).alloc _ _) hg⟩
    · have g3 := T.out (by omega) (by omega)
      clear T
      go_wp2_with (first | (go_at_call 59; refine (order_any _ _ _ _ (by assumption) (by assumption) (by assumption) (by assumption) _).mono ?_; rintro e w' ⟨rfl, rfl⟩) | (go_at_call 24; refine (same_any _ _ _ _ _).mono ?_; rintro e w' ⟨rfl, rfl⟩) | (go_at_call 19; refine (awake_any _).mono ?_; rintro e w' ⟨rfl, hg⟩))
      go_ret
      exact ⟨rfl, grown_trans (show Grown w ((((w.alloc _).alloc _).alloc _).drewN _) from (((Grown.refl w).alloc _ _).alloc _ _).alloc _ _) hg⟩

set_option maxRecDepth 100000 in
theorem cplxOrder_lifted (os : Os) (started : os.Started) (H : Type) (enc : TypeId × Value → H) :
    ReturnsInHanded {} Try.checked os 10 .any (Rows.cplxOrderSpec.pre6 enc Try.prog Try.f10 Rows.cplxOrderRow.domain false) (Rows.cplxOrderSpec.post enc Try.prog Try.f10 false true false false) := by
  refine returnsInHanded_of_change (C := Try.checked) Try.own started (by kernel_rfl) Try.func10
    (ChangeSpec.witness6 (enc := enc) (C := Try.checked) false ⟨#[], #[.agg #[.int .u64 0, .int .u64 0], .agg #[.int .u64 0, .int .u64 0], .agg #[.int .u64 0, .int .u64 0]], []⟩ 8 (by kernel_rfl) (by kernel_rfl) (by kernel_rfl) (by kernel_rfl)) ?_
  intro W base args ds gs before hval0 hW hcnd _
  have hval : ∀ (j : Nat) t v, Try.f10.params[j]? = some t → args[j]? = some v → Value.okWide Try.prog W .any base t v := hval0
  have hW' := hW
  obtain ⟨p, q, hA0, hV, rfl, hfz, hnd⟩ := hW
  have hA : DataW.TrodAll enc Try.prog W 0 (fun _ => true) true Try.f10.params.toList args.toList ds p := hA0
  rw [Try.params10] at hA hval
  obtain ⟨v0, vs0, d0, ds0, p0, q0, hargs, rfl, rfl, h0, r0⟩ := trodAll_cons hA
  obtain ⟨v1, vs1, d1, ds1, p1, q1, rfl, rfl, rfl, h1, r1⟩ := trodAll_cons r0
  obtain ⟨v2, vs2, d2, ds2, p2, q2, rfl, rfl, rfl, h2, r2⟩ := trodAll_cons r1
  obtain ⟨rfl, rfl, rfl⟩ := trodAll_nil r2
  obtain rfl : args = #[v0, v1, v2] := by cases args; simp_all
  obtain ⟨rfl, rfl⟩ := trodVars_none hV
  obtain ⟨c0, e0, y0, z0, m0, rfl, rfl, rfl, hy0, hz0⟩ := open_agg2 Try.underlying24 (by kernel_rfl) Try.cells24 (hval 0 24 v0 rfl rfl) h0
  obtain ⟨a0, ea0, rfl, wa0⟩ := DataW.trod_int Try.underlying22 hy0
  obtain ⟨b0, eb0, rfl, wb0⟩ := DataW.trod_int Try.underlying22 hz0
  simp at ea0 eb0
  subst ea0 eb0
  obtain ⟨c1, e1, y1, z1, m1, rfl, rfl, rfl, hy1, hz1⟩ := open_agg2 Try.underlying24 (by kernel_rfl) Try.cells24 (hval 1 24 v1 rfl rfl) h1
  obtain ⟨a1, ea1, rfl, wa1⟩ := DataW.trod_int Try.underlying22 hy1
  obtain ⟨b1, eb1, rfl, wb1⟩ := DataW.trod_int Try.underlying22 hz1
  simp at ea1 eb1
  subst ea1 eb1
  obtain ⟨c2, e2, y2, z2, m2, rfl, rfl, rfl, hy2, hz2⟩ := open_agg2 Try.underlying24 (by kernel_rfl) Try.cells24 (hval 2 24 v2 rfl rfl) h2
  obtain ⟨a2, ea2, rfl, wa2⟩ := DataW.trod_int Try.underlying22 hy2
  obtain ⟨b2, eb2, rfl, wb2⟩ := DataW.trod_int Try.underlying22 hz2
  simp at ea2 eb2
  subst ea2 eb2
  clear hA0 hval0
  simp only [List.append_nil] at hW'
  refine (law_order a0 b0 (u64_bd wa0) (u64_bd wb0) a1 b1 (u64_bd wa1) (u64_bd wb1) a2 b2 (u64_bd wa2) (u64_bd wb2) W).mono fun e W' ⟨he, hg⟩ => ?_
  subst he
  exact ⟨_, rfl, post_of_same (pa := []) (pv := []) hW' (fun _ _ _ => (trodAll_cons_mk (shut_bool Try.underlying4 _) trodAll_mk0)) (fun sp _ => (trodAll_cons_mk (parts_read enc _ sp wa0 wb0) (trodAll_cons_mk (parts_read enc _ sp wa1 wb1) (trodAll_cons_mk (parts_read enc _ sp wa2 wb2) trodAll_mk0)))) (fun _ _ => rfl) rfl
    (hg.frame _) hg.2.1 (ok_one (by kernel_rfl) rfl (okWide_bool_mk Try.underlying4 _))⟩

theorem cplxOrder_holds : Rows.CplxOrderSaid :=
  OpenClaim.holds_of_wide 10 Try.f10 rfl rfl rfl rfl rfl rfl rfl ⟨rfl, rfl, rfl, rfl, rfl⟩ rfl rfl rfl rfl rfl (by kernel_rfl) Try.func10 (by kernel_rfl)
    (of_decide_eq_true (by kernel_rfl)) (by unfold Func.isWrapper; rw [if_neg (of_decide_eq_false (by kernel_rfl))]; exact ⟨rfl, rfl⟩)
    (fun os started H enc _ => cplxOrder_lifted os started H enc)
#print axioms cplxOrder_holds

end Go.Proofs.Ytoihdhmgjfoclaa
