/- 2.4: whatever number and distance: the program's shift is the document's (within the lengths that the statement plays), a refused number is refused, and the calls that each statement asks besides answer as the document has it. Conditions: none. -/
import Derived.Test.YtfhkpkebiinglaaRsh
namespace Go.Proofs.Ytfhkpkebiinglaa
open Go.ChangeShapes Go.ChangeMaps Go.WideShapes Go.ChangeAt Go.RowKit Go.Joins
set_option linter.unusedVariables false

set_option maxRecDepth 100000 in
theorem law_NatShift (a : ByteArray) (ha : a.size ≤ 140737488351232) (n : Int) (hn : -9223372036854775808 ≤ n ∧ n < 9223372036854775808) (w : World) :
    Calls Try.prog 7 #[.string a, .int .i64 n] w fun e w' => e = .returned (.bool true) ∧ Below w.heap.size w w' := by
  have hma : a.size ≤ maxLen := by unfold maxLen; omega
  have HM := Lib.hid fun W => Shift_any a n hn W hma
  have HRF := Lib.hid fun W t ht => refused_one a W hma t ht
  by_cases hok : Ok a
  · have HRM := Lib.hid fun W => rShift_any a hok n hn W
    have HRF2 := Lib.hid fun W => HRF.out W false (by simp [hok])
    simp only [hok, if_true] at HM
    have ha1 := hok.1
    clear hma hok HRF ha
    obtain ⟨hn1, hn2⟩ := hn
    have hsh : ∃ s e, shN (bval a) n = .tuple #[.string s, .int .i64 e] := by
      unfold shN endN
      split; exact ⟨_, _, rfl⟩; split; exact ⟨_, _, rfl⟩; split; exact ⟨_, _, rfl⟩; exact ⟨_, _, rfl⟩
    obtain ⟨s, e, hsh⟩ := hsh
    rw [hsh] at HM HRM
    clear hsh
    clear hn1 hn2
    by_cases hp : 0 < n
    · by_cases hbig : n ≤ 131072
      · have h0n : 0 ≤ n := by omega
        go_enter Try.func7, Try.ntmps7
        go_wp2_with (first | (go_at_call 28; refine (HM.out _).mono ?_; rintro e' w1 ⟨rfl, B1⟩) | (go_at_call 21; refine (HRF2.out _).mono ?_; rintro e' w2 ⟨rfl, B2⟩) | (go_at_call 29; refine (HRM.out _).mono ?_; rintro e' w3 ⟨rfl, B3⟩) | (go_at_call 23; refine (is_same _ _ _).mono ?_; rintro e' w4 ⟨rfl, rfl⟩) | (go_at_call 19; refine (awake_any _).mono ?_; rintro e wz ⟨rfl, BZ⟩))
        all_goals (go_ret; first | exact ⟨rfl, BZ⟩ | exact ⟨rfl, (B1.on B2).on BZ⟩ | exact ⟨rfl, ((B1.on B2).on B3).on BZ⟩)
      · have hb2 : 131072 < n := by omega
        clear hbig
        go_enter Try.func7, Try.ntmps7
        go_wp2_with (first | (go_at_call 28; refine (HM.out _).mono ?_; rintro e' w1 ⟨rfl, B1⟩) | (go_at_call 21; refine (HRF2.out _).mono ?_; rintro e' w2 ⟨rfl, B2⟩) | (go_at_call 29; refine (HRM.out _).mono ?_; rintro e' w3 ⟨rfl, B3⟩) | (go_at_call 23; refine (is_same _ _ _).mono ?_; rintro e' w4 ⟨rfl, rfl⟩) | (go_at_call 19; refine (awake_any _).mono ?_; rintro e wz ⟨rfl, BZ⟩))
        all_goals (go_ret; first | exact ⟨rfl, BZ⟩ | exact ⟨rfl, (B1.on B2).on BZ⟩ | exact ⟨rfl, ((B1.on B2).on B3).on BZ⟩)
    · go_enter Try.func7, Try.ntmps7
      go_wp2_with (first | (go_at_call 28; refine (HM.out _).mono ?_; rintro e' w1 ⟨rfl, B1⟩) | (go_at_call 21; refine (HRF2.out _).mono ?_; rintro e' w2 ⟨rfl, B2⟩) | (go_at_call 29; refine (HRM.out _).mono ?_; rintro e' w3 ⟨rfl, B3⟩) | (go_at_call 23; refine (is_same _ _ _).mono ?_; rintro e' w4 ⟨rfl, rfl⟩) | (go_at_call 19; refine (awake_any _).mono ?_; rintro e wz ⟨rfl, BZ⟩))
      all_goals (go_ret; first | exact ⟨rfl, BZ⟩ | exact ⟨rfl, (B1.on B2).on BZ⟩ | exact ⟨rfl, ((B1.on B2).on B3).on BZ⟩)
  · have HRF2 := Lib.hid fun W => HRF.out W true (by simp only [hok, decide_false]; rfl)
    simp only [hok, if_false] at HM
    clear hma hok HRF hn
    go_enter Try.func7, Try.ntmps7
    go_wp2_with (first | (go_at_call 28; refine (HM.out _).mono ?_; rintro e w1 ⟨rfl, B1⟩) | (go_at_call 21; refine (HRF2.out _).mono ?_; rintro e w2 ⟨rfl, B2⟩) | (go_at_call 19; refine (awake_any _).mono ?_; rintro e wz ⟨rfl, BZ⟩))
    all_goals (go_ret; first | exact ⟨rfl, BZ⟩ | exact ⟨rfl, (B1.on B2).on BZ⟩)

set_option maxRecDepth 100000 in
theorem natShift_lifted (os : Os) (started : os.Started) (H : Type) (enc : TypeId × Value → H) :
    ReturnsInHanded {} Try.checked os 7 .any (Rows.natShiftSpec.pre6 enc Try.prog Try.f7 Rows.natShiftRow.domain false) (Rows.natShiftSpec.post enc Try.prog Try.f7 false true false false) := by
  refine returnsInHanded_of_change_sized (C := Try.checked) Try.own started (by kernel_rfl) Try.func7
    (ChangeSpec.witness6 (enc := enc) (C := Try.checked) false ⟨#[], #[.string ⟨#[]⟩, .int .i64 0], []⟩ 8 (by kernel_rfl) (by kernel_rfl) (by kernel_rfl) (by kernel_rfl)) ?_
  intro W base args ds gs before hval0 hW hcnd hsz0 _
  have hval : ∀ (j : Nat) t v, Try.f7.params[j]? = some t → args[j]? = some v → Value.okWide Try.prog W .any base t v := hval0
  have hsz : (DataW.weightsEach Try.prog (Try.f7.params.toList ++ Rows.natShiftSpec.plain.varTypes Try.prog) (ds ++ gs)).all (· ≤ reachBytes) = true := hsz0
  clear hsz0
  have hW' := hW
  obtain ⟨p, q, hA0, hV, rfl, hfz, hnd⟩ := hW
  have hA : DataW.TrodAll enc Try.prog W 0 (fun _ => true) true Try.f7.params.toList args.toList ds p := hA0
  rw [Try.params7] at hA hval hsz
  obtain ⟨v0, vs0, d0, ds0, p0, q0, hargs, rfl, rfl, h0, r0⟩ := trodAll_cons hA
  obtain ⟨v1, vs1, d1, ds1, p1, q1, rfl, rfl, rfl, h1, r1⟩ := trodAll_cons r0
  obtain ⟨rfl, rfl, rfl⟩ := trodAll_nil r1
  obtain rfl : args = #[v0, v1] := by cases args; simp_all
  obtain ⟨rfl, rfl⟩ := trodVars_none hV
  obtain ⟨a0, rfl, rfl, rfl, wa0⟩ := open_string Try.underlying22 (hval 0 22 v0 rfl rfl) h0
  have sz0 : a0.size ≤ 140737488351232 := by
    have h := sized_string hsz (j := 0) (t := 22) rfl rfl
    rw [Array.length_toList] at h; exact h
  obtain ⟨a1, rfl, rfl, rfl, wa1⟩ := open_int Try.underlying3 (hval 1 3 v1 rfl rfl) h1
  clear hA0 hval0
  simp only [List.append_nil] at hW'
  refine (law_NatShift a0 sz0 a1 (i64_bd wa1) W).mono fun e W' ⟨he, hg⟩ => ?_
  subst he
  exact ⟨_, rfl, post_of_below (pa := []) (pv := []) hW' (fun _ _ _ => (trodAll_cons_mk (shut_bool Try.underlying4 _) trodAll_mk0)) (fun _ _ => (trodAll_cons_mk (shut_string Try.underlying22 wa0) (trodAll_cons_mk (shut_int Try.underlying3 wa1) trodAll_mk0))) (fun _ _ => rfl) rfl
    hg (ok_one (by kernel_rfl) rfl (okWide_bool_mk Try.underlying4 _))⟩

theorem natShift_holds : Rows.NatShiftSaid :=
  OpenClaim.holds_of_wide 7 Try.f7 rfl rfl rfl rfl rfl rfl rfl ⟨rfl, rfl, rfl, rfl, rfl⟩ rfl rfl rfl rfl rfl (by kernel_rfl) Try.func7 (by kernel_rfl)
    (of_decide_eq_true (by kernel_rfl)) (by unfold Func.isWrapper; rw [if_neg (of_decide_eq_false (by kernel_rfl))]; exact ⟨rfl, rfl⟩)
    (fun os started H enc _ => natShift_lifted os started H enc)
#print axioms natShift_holds

end Go.Proofs.Ytfhkpkebiinglaa
