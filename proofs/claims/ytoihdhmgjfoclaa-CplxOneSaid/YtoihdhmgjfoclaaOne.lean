/- 5.1 to 5.3: of every number, by its parts' bits: its kind, its bits, its signs, turned, squared: as the document has it. Conditions: none. -/
import Derived.Test.YtoihdhmgjfoclaaLa
import Derived.Deep.RegionHeld3
import Derived.Test.YtoihdhmgjfoclaaOrd
import Derived.Deep.QuietTactic
import Derived.BigQuiet
namespace Go.Proofs.Ytoihdhmgjfoclaa
open Go.ChangeShapes Go.WideShapes Go.ChangeAt Go.RowKit Go.Joins
set_option linter.unusedVariables false
theorem pcut_any (x : Nat) (w : World) :
    Calls Try.prog 84 #[.float .f64 x] w fun e w' => e = .returned (.int .u64 (bitsW x : Nat)) ∧ w' = w := by
  cases hx : isN x
  · go_enter Try.func84, Try.ntmps84
    go_wp2
    go_ret
    exact ⟨ret_i (by unfold bitsW; rw [if_neg (by rw [hx]; decide)]), rfl⟩
  · go_enter Try.func84, Try.ntmps84
    go_wp2
    go_ret
    exact ⟨ret_i (by unfold bitsW; rw [if_pos hx]; rfl), rfl⟩
theorem cut_any (a b : Nat) (w : World) :
    Calls Try.prog 45 #[.complex .f64 a b] w fun e w' => e = .returned (.agg #[.int .u64 (bitsW a : Nat), .int .u64 (bitsW b : Nat)]) ∧ w' = w.alloc (.cells #[.int .u64 (bitsW a : Nat), .int .u64 (bitsW b : Nat)] 24) := by
  go_enter Try.func45, Try.ntmps45
  go_wp2_with (go_at_call 84; refine (pcut_any _ _).mono ?_; rintro e w' ⟨rfl, rfl⟩)
  exact bodyPost_ret (v := .agg #[.int .u64 (bitsW a : Nat), .int .u64 (bitsW b : Nat)]) (by simp [results, Try.results45, go_sem]) rfl ⟨rfl, rfl⟩
theorem make_any (a b : Int) (w : World) :
    Calls Try.prog 44 #[.agg #[.int .u64 a, .int .u64 b]] w fun e w' => ∃ n, e = .returned (.complex .f64 a.toNat b.toNat) ∧ w' = (w.alloc (.cells #[.int .u64 a, .int .u64 b] 24)).drewN n := by
  go_enter Try.func44, Try.ntmps44
  go_wp2_with fail
  go_quiet (fail)
  go_wp2
  go_ret
  exact ⟨_, rfl, rfl⟩
theorem signs_any (a b : Nat) (ha : a < 18446744073709551616) (hb : b < 18446744073709551616) (w : World) :
    Calls Try.prog 52 #[.complex .f64 a b] w fun e w' => e = .returned (.tuple #[.bool (!isN a && sgB a), .bool (!isN b && sgB b)]) ∧ w' = w := by
  cases h1 : isN a <;> cases h2 : isN b <;>
  · go_enter Try.func52, Try.ntmps52
    go_wp2_with (first | (go_at_call 86; refine (nan_any _ _).mono ?_; rintro e w' ⟨rfl, rfl⟩) | (go_at_call 53; refine (signbit_any _ (by assumption) _).mono ?_; rintro e w' ⟨rfl, rfl⟩))
    go_ret2
    exact ⟨by simp, rfl⟩

structure OneG (w W : World) : Prop where
  grown : Grown w W
  size : w.heap.size + 1 + 1 < W.heap.size
theorem OneG.drew {w W : World} (h : OneG w W) : OneG w W.drew := ⟨h.grown, h.size⟩
theorem make_S (a b : Int) (w W : World) (h : OneG w W ∧ W.cell? ⟨w.heap.size, 0, none⟩ = some (.int .u64 a) ∧ W.cell? ⟨w.heap.size, 1, none⟩ = some (.int .u64 b) ∧ W.cell? ⟨w.heap.size + 1 + 1, 0, none⟩ = some (.int .u64 (bitsW a.toNat : Nat)) ∧ W.cell? ⟨w.heap.size + 1 + 1, 1, none⟩ = some (.int .u64 (bitsW b.toNat : Nat))) :
    Calls Try.prog 44 #[.agg #[.int .u64 a, .int .u64 b]] W fun e W => e = .returned (.complex .f64 a.toNat b.toNat) ∧ OneG w W ∧ W.cell? ⟨w.heap.size, 0, none⟩ = some (.int .u64 a) ∧ W.cell? ⟨w.heap.size, 1, none⟩ = some (.int .u64 b) ∧ W.cell? ⟨w.heap.size + 1 + 1, 0, none⟩ = some (.int .u64 (bitsW a.toNat : Nat)) ∧ W.cell? ⟨w.heap.size + 1 + 1, 1, none⟩ = some (.int .u64 (bitsW b.toNat : Nat)) := by
  obtain ⟨hg, h1, h2, h3, h4⟩ := h
  refine (make_any a b W).mono ?_
  rintro e w' ⟨n, rfl, rfl⟩
  have hs := hg.size
  refine ⟨rfl, ⟨(show Grown w (World.drewN _ _) from hg.grown.alloc _ _), by simp; omega⟩, ?_, ?_, ?_, ?_⟩
  · rw [World.cell?_drewN, World.cell?_alloc_lt _ _ _ (by show w.heap.size < W.heap.size; omega)]; exact h1
  · rw [World.cell?_drewN, World.cell?_alloc_lt _ _ _ (by show w.heap.size < W.heap.size; omega)]; exact h2
  · rw [World.cell?_drewN, World.cell?_alloc_lt _ _ _ (by show w.heap.size + 1 + 1 < W.heap.size; omega)]; exact h3
  · rw [World.cell?_drewN, World.cell?_alloc_lt _ _ _ (by show w.heap.size + 1 + 1 < W.heap.size; omega)]; exact h4
theorem kindN_le (a b : Nat) : kindN a b ≤ 2 := by unfold kindN; split <;> (try split) <;> omega
set_option maxHeartbeats 2000000 in
theorem law_one (a b : Int) (ha : 0 ≤ a ∧ a < 18446744073709551616) (hb : 0 ≤ b ∧ b < 18446744073709551616) (w : World) :
    Calls Try.prog 9 #[.agg #[.int .u64 a, .int .u64 b]] w fun e w' => e = .returned (.bool true) ∧ Grown w w' := by
  have na : a.toNat < 18446744073709551616 := by omega
  have nb : b.toNat < 18446744073709551616 := by omega
  clear ha hb
  have hk := kindN_le a.toNat b.toNat
  have hs : sameB a.toNat b.toNat a.toNat b.toNat = true := sameB_of rfl rfl
  have hk2 : IntKind.i64.wrap (kindN a.toNat b.toNat : Int) = kindN a.toNat b.toNat := by rw [IntKind.wrap_i64]; omega
  clear hk
  go_enter Try.func9, Try.ntmps9
  go_wp2_with (first | (go_at_call 13; refine (of_any _ _ _).mono ?_; rintro e w' ⟨rfl, rfl⟩) | (go_at_call 45; refine (cut_any _ _ _).mono ?_; rintro e w' ⟨rfl, rfl⟩))
  generalize hW : World.alloc (World.alloc (World.alloc _ _) _) _ = W
  have H : OneG w W ∧ W.cell? ⟨w.heap.size, 0, none⟩ = some (.int .u64 a) ∧ W.cell? ⟨w.heap.size, 1, none⟩ = some (.int .u64 b) ∧ W.cell? ⟨w.heap.size + 1 + 1, 0, none⟩ = some (.int .u64 (bitsW a.toNat : Nat)) ∧ W.cell? ⟨w.heap.size + 1 + 1, 1, none⟩ = some (.int .u64 (bitsW b.toNat : Nat)) := by
    subst hW
    refine ⟨⟨(((Grown.refl w).alloc _ _).alloc _ _).alloc _ _, by simp⟩, ?_, ?_, ?_, ?_⟩ <;> go_simp
  clear hW
  obtain ⟨hg, c0, c1, d0, d1⟩ := H
  go_region_held3 (fun W => OneG w W ∧ W.cell? ⟨w.heap.size, 0, none⟩ = some (.int .u64 a) ∧ W.cell? ⟨w.heap.size, 1, none⟩ = some (.int .u64 b) ∧ W.cell? ⟨w.heap.size + 1 + 1, 0, none⟩ = some (.int .u64 (bitsW a.toNat : Nat)) ∧ W.cell? ⟨w.heap.size + 1 + 1, 1, none⟩ = some (.int .u64 (bitsW b.toNat : Nat))) (exact ⟨(by first | assumption | exact OneG.drew (by assumption)), by assumption, by assumption, by assumption, by assumption⟩) (first | (go_at_call 49; refine (kind_any _ _ (by assumption) (by assumption) _).mono ?_; rintro e w' ⟨rfl, rfl⟩) | (go_at_call 50; refine (rkind_any _ _ (by assumption) (by assumption) _).mono ?_; rintro e w' ⟨rfl, rfl⟩) | (go_at_call 51; refine (rbits_any _ _).mono ?_; rintro e w' ⟨rfl, rfl⟩) | (go_at_call 44; refine (make_S a b w _ ⟨(by first | assumption | exact OneG.drew (by assumption)), by assumption, by assumption, by assumption, by assumption⟩).mono ?_; rintro e w' ⟨rfl, hg, c0, c1, d0, d1⟩) | (go_at_call 21; refine (llike_any _ _ _ _ _).mono ?_; rintro e w' ⟨rfl, rfl⟩))
  have HG := Lib.hid hg.grown
  clear c0 c1 d0 d1 hk2 hs hg
  generalize a.toNat = x at *
  generalize b.toNat = y at *
  have s1 : sameB (ng x) (ng y) (turnW x) (turnW y) = true := sameB_of (cn_turnW x na).symm (cn_turnW y nb).symm
  have s2 : sameB x (ng y) x (turnW y) = true := sameB_of rfl (cn_turnW y nb).symm
  have s3 : sameB (ng y) x (turnW y) x = true := sameB_of (cn_turnW y nb).symm rfl
  cases g1 : isN x <;> cases g2 : isN y <;>
  · go_wp2_with (first | (go_at_call 52; refine (signs_any _ _ (by assumption) (by assumption) _).mono ?_; rintro e w' ⟨rfl, rfl⟩) | (go_at_call 53; refine (signbit_any _ (by assumption) _).mono ?_; rintro e w' ⟨rfl, rfl⟩) | (go_at_call 25; refine (neg_any _ _ (by assumption) (by assumption) _).mono ?_; rintro e w' ⟨rfl, rfl⟩) | (go_at_call 54; refine (rneg_any _ _ (by assumption) (by assumption) _).mono ?_; rintro e w' ⟨rfl, rfl⟩) | (go_at_call 26; refine (conj_any _ _ (by assumption) _).mono ?_; rintro e w' ⟨rfl, rfl⟩) | (go_at_call 55; refine (rconj_any _ _ (by assumption) _).mono ?_; rintro e w' ⟨rfl, rfl⟩) | (go_at_call 27; refine (turn_any _ _ (by assumption) _).mono ?_; rintro e w' ⟨rfl, rfl⟩) | (go_at_call 56; refine (rturn_any _ _ (by assumption) _).mono ?_; rintro e w' ⟨rfl, rfl⟩) | (go_at_call 57; refine (sq_any _ _ _).mono ?_; rintro e w' ⟨re, im, n, rfl, rfl, h1, h2⟩) | (go_at_call 58; refine (rsq_any _ _ _).mono ?_; rintro e w' ⟨re2, im2, n2, rfl, rfl, h3, h4⟩) | (go_at_call 21; first | (refine (llike_yes _ _ _ _ _ (h1.cn.trans h3.cn.symm) (h2.cn.trans h4.cn.symm)).mono ?_; rintro e w' ⟨rfl, rfl⟩; clear h1 h2 h3 h4) | (refine (llike_any _ _ _ _ _).mono ?_; rintro e w' ⟨rfl, rfl⟩)) | (go_at_call 19; refine (awake_any _).mono ?_; rintro e w' ⟨rfl, hg⟩))
    go_ret
    exact ⟨rfl, grown_trans (show Grown w (World.drewN _ _) from HG.out) hg⟩

set_option maxRecDepth 100000 in
theorem cplxOne_lifted (os : Os) (started : os.Started) (H : Type) (enc : TypeId × Value → H) :
    ReturnsInHanded {} Try.checked os 9 .any (Rows.cplxOneSpec.pre6 enc Try.prog Try.f9 Rows.cplxOneRow.domain false) (Rows.cplxOneSpec.post enc Try.prog Try.f9 false true false false) := by
  refine returnsInHanded_of_change (C := Try.checked) Try.own started (by kernel_rfl) Try.func9
    (ChangeSpec.witness6 (enc := enc) (C := Try.checked) false ⟨#[], #[.agg #[.int .u64 0, .int .u64 0]], []⟩ 8 (by kernel_rfl) (by kernel_rfl) (by kernel_rfl) (by kernel_rfl)) ?_
  intro W base args ds gs before hval0 hW hcnd _
  have hval : ∀ (j : Nat) t v, Try.f9.params[j]? = some t → args[j]? = some v → Value.okWide Try.prog W .any base t v := hval0
  have hW' := hW
  obtain ⟨p, q, hA0, hV, rfl, hfz, hnd⟩ := hW
  have hA : DataW.TrodAll enc Try.prog W 0 (fun _ => true) true Try.f9.params.toList args.toList ds p := hA0
  rw [Try.params9] at hA hval
  obtain ⟨v0, vs0, d0, ds0, p0, q0, hargs, rfl, rfl, h0, r0⟩ := trodAll_cons hA
  obtain ⟨rfl, rfl, rfl⟩ := trodAll_nil r0
  obtain rfl : args = #[v0] := by cases args; simp_all
  obtain ⟨rfl, rfl⟩ := trodVars_none hV
  obtain ⟨c0, e0, y0, z0, m0, rfl, rfl, rfl, hy0, hz0⟩ := open_agg2 Try.underlying24 (by kernel_rfl) Try.cells24 (hval 0 24 v0 rfl rfl) h0
  obtain ⟨a0, ea0, rfl, wa0⟩ := DataW.trod_int Try.underlying22 hy0
  obtain ⟨b0, eb0, rfl, wb0⟩ := DataW.trod_int Try.underlying22 hz0
  simp at ea0 eb0
  subst ea0 eb0
  clear hA0 hval0
  simp only [List.append_nil] at hW'
  refine (law_one a0 b0 (u64_bd wa0) (u64_bd wb0) W).mono fun e W' ⟨he, hg⟩ => ?_
  subst he
  exact ⟨_, rfl, post_of_same (pa := []) (pv := []) hW' (fun _ _ _ => (trodAll_cons_mk (shut_bool Try.underlying4 _) trodAll_mk0)) (fun sp _ => (trodAll_cons_mk (parts_read enc _ sp wa0 wb0) trodAll_mk0)) (fun _ _ => rfl) rfl
    (hg.frame _) hg.2.1 (ok_one (by kernel_rfl) rfl (okWide_bool_mk Try.underlying4 _))⟩

theorem cplxOne_holds : Rows.CplxOneSaid :=
  OpenClaim.holds_of_wide 9 Try.f9 rfl rfl rfl rfl rfl rfl rfl ⟨rfl, rfl, rfl, rfl, rfl⟩ rfl rfl rfl rfl rfl (by kernel_rfl) Try.func9 (by kernel_rfl)
    (of_decide_eq_true (by kernel_rfl)) (by unfold Func.isWrapper; rw [if_neg (of_decide_eq_false (by kernel_rfl))]; exact ⟨rfl, rfl⟩)
    (fun os started H enc _ => cplxOne_lifted os started H enc)
#print axioms cplxOne_holds

end Go.Proofs.Ytoihdhmgjfoclaa
