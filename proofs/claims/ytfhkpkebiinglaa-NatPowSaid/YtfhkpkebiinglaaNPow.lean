/- 2.5: whatever number and power: the program's power is the document's (within the lengths that the statement plays, and far above the bound), a refused number is refused, and the calls that each statement asks besides answer as the document has it. Conditions: none. -/
import Derived.Test.YtfhkpkebiinglaaPowx
import Derived.Deep.QuietTactic
import Derived.BigQuiet
namespace Go.Proofs.Ytfhkpkebiinglaa
open Go.ChangeShapes Go.ChangeMaps Go.WideShapes Go.ChangeAt Go.RowKit Go.Joins
set_option linter.unusedVariables false

theorem below_drewN {B : Nat} {a w : World} (h : Below B a w) (n : Nat) : Below B a (w.drewN n) := ⟨h.os, h.tape, h.output, h.size, h.block⟩
set_option maxRecDepth 100000 in
theorem law_NatPow (a : ByteArray) (ha : a.size ≤ 140737488351232) (n : Int) (hn : -9223372036854775808 ≤ n ∧ n < 9223372036854775808) (w : World) :
    Calls Try.prog 14 #[.string a, .int .i64 n] w fun e w' => e = .returned (.bool true) ∧ Below w.heap.size w w' := by
  have hma : a.size ≤ maxLen := by unfold maxLen; omega
  have HM := Lib.hid fun W => Pow_any a n W hma
  have HRF := Lib.hid fun W t ht => refused_one a W hma t ht
  clear hn
  by_cases hok : Ok a
  · have HRM := Lib.hid fun W => rPow_ok a hok n W
    have HRF2 := Lib.hid fun W => HRF.out W false (by simp [hok])
    simp only [hok, if_true] at HM
    have ha1 := hok.1
    have HLN := Lib.hid fun W => rLen_any a (by omega) W
    have HFAR : Hid (∀ m : Nat, n = (m : Int) → 0 < m → 131072 / m + 8 < blen (bval a) → powN (bval a) n = .tuple #[.string ⟨#[]⟩, .int .i64 4]) := fun m hm h0 hl => by
      subst hm
      unfold powN
      rw [if_neg (by omega), Int.toNat_natCast]
      exact not_sm (pow_far h0 hl)
    have hbl : blen (bval a) ≤ 8 * a.size := by
      rw [blen_le, two_pow_8]
      exact bval_lt a
    have hbl2 : blen (bval a) ≤ 131072 := by omega
    clear hbl
    clear hma hok HRF ha
    obtain ⟨s, e, hsh⟩ := powN_is (bval a) n
    have HSH := Lib.hid hsh
    rw [hsh] at HM HRM
    clear hsh
    have HLQ : Hid (∀ W : World, Calls Try.prog 52 #[.string a] W fun e w' => e = .returned (.int .i64 (blen (bval a) : Nat)) ∧ w' = W) := fun W => (HLN.out W).mono fun _ _ h => ⟨h.1, h.2.symm⟩
    generalize blen (bval a) = L at *
    by_cases hp : 0 < n
    · by_cases hbig : n ≤ 131072
      · obtain ⟨m, hm⟩ : ∃ m : Nat, n = (m : Int) := ⟨n.toNat, by omega⟩
        have hm0 : 0 < m := by omega
        have hm1 : m ≤ 131072 := by omega
        have HF := Lib.hid (HFAR.out m hm hm0)
        subst hm
        obtain ⟨q, hq⟩ : ∃ q, q = 131072 / m := ⟨_, rfl⟩
        obtain ⟨q2, hq2⟩ : ∃ q2, q2 = 9600 / m := ⟨_, rfl⟩
        have hqz : (131072 : Int) / (m : Int) = (q : Int) := by rw [hq]; exact (Int.natCast_ediv 131072 m).symm
        have hqz2 : (9600 : Int) / (m : Int) = (q2 : Int) := by rw [hq2]; exact (Int.natCast_ediv 9600 m).symm
        have hqb : q ≤ 131072 := by rw [hq]; exact Nat.div_le_self _ _
        have hqb2 : q2 ≤ 9600 := by rw [hq2]; exact Nat.div_le_self _ _
        rw [← hq] at HF
        clear hq hq2 HFAR
        have hmb : ((m : Int) == 0) = false := by rw [beq_eq_false_iff_ne]; omega
        have hm00 : ¬ m = 0 := by omega
        have hm01 : ¬ (m : Int) = 0 := by omega
        have HW1 : Hid (IntKind.i64.wrap ((131072 : Int).tdiv (m : Int)) = (q : Int)) := by
          show _ = _
          rw [Int.tdiv_eq_ediv_of_nonneg (by omega), hqz, IntKind.wrap_i64]; omega
        have HW2 : Hid (IntKind.i64.wrap ((9600 : Int).tdiv (m : Int)) = (q2 : Int)) := by
          show _ = _
          rw [Int.tdiv_eq_ediv_of_nonneg (by omega), hqz2, IntKind.wrap_i64]; omega
        by_cases hsz : 0 < a.size
        · by_cases hL : q + 8 < L
          · have h := (HF.out hL).symm.trans HSH.out
            simp only [Value.tuple.injEq, Array.mk.injEq, List.cons.injEq, Value.string.injEq, Value.int.injEq, and_true, true_and] at h
            obtain ⟨h1, h2⟩ := h
            subst h1 h2
            have hLz : (q : Int) + 8 < (L : Int) := by omega
            clear HF HSH
            go_enter Try.func14, Try.ntmps14
            go_wp2_with (first | (go_at_call 55; refine (HM.out _).mono ?_; rintro e' w1 ⟨rfl, B1⟩) | (go_at_call 21; refine (HRF2.out _).mono ?_; rintro e' w2 ⟨rfl, B2⟩) | (go_at_call 52; with_reducible refine (HLN.out _).mono ?_; rintro e' w' ⟨rfl, rfl⟩) | (go_at_call 56; refine (HRM.out _).mono ?_; rintro e' w3 ⟨rfl, B3⟩) | (go_at_call 23; refine (is_same _ _ _).mono ?_; rintro e' w4 ⟨rfl, rfl⟩) | (go_at_call 19; refine (awake_any _).mono ?_; rintro e wz ⟨rfl, BZ⟩))
            have hw1 : IntKind.i64.wrap ((131072 : Int).tdiv (m : Int)) = (q : Int) := HW1.out
            have hw2 : IntKind.i64.wrap ((q : Int) + 8) = (q : Int) + 8 := by rw [IntKind.wrap_i64]; omega
            go_region_held3 (fun _ => True) (trivial) (first | (go_at_call 52; refine (HLN.out _).mono ?_; rintro e' w' ⟨rfl, rfl⟩))
            clear hw1 hw2
            go_wp2_with (first | (go_at_call 55; refine (HM.out _).mono ?_; rintro e' w1 ⟨rfl, B1⟩) | (go_at_call 21; refine (HRF2.out _).mono ?_; rintro e' w2 ⟨rfl, B2⟩) | (go_at_call 52; with_reducible refine (HLN.out _).mono ?_; rintro e' w' ⟨rfl, rfl⟩) | (go_at_call 56; refine (HRM.out _).mono ?_; rintro e' w3 ⟨rfl, B3⟩) | (go_at_call 23; refine (is_same _ _ _).mono ?_; rintro e' w4 ⟨rfl, rfl⟩) | (go_at_call 19; refine (awake_any _).mono ?_; rintro e wz ⟨rfl, BZ⟩))
            all_goals (go_ret; first | exact ⟨rfl, ((B1.on B2).on B3).on BZ⟩ | exact ⟨rfl, (B1.on B2).on BZ⟩ | exact ⟨rfl, (B1.on B2).drew.on BZ⟩ | exact ⟨rfl, (B1.on B2).drew.drew.on BZ⟩ | exact ⟨rfl, (below_drewN BD _).on BZ⟩ | exact ⟨rfl, ((below_drewN BD _).on B3).on BZ⟩)
          · have hLz : ¬ (q : Int) + 8 < (L : Int) := by omega
            clear HF HSH hL
            have hcase : (¬ (q2 : Int) + 1 < (L : Int) ∧ decide ((q2 : Int) + 1 < (L : Int)) = false) ∨ ((q2 : Int) + 1 < (L : Int) ∧ decide ((q2 : Int) + 1 < (L : Int)) = true ∧ (a.toList == [1]) = true) ∨ ((q2 : Int) + 1 < (L : Int) ∧ decide ((q2 : Int) + 1 < (L : Int)) = true ∧ (a.toList == [1]) = false) := by
              by_cases h1 : (q2 : Int) + 1 < (L : Int)
              · cases h2 : (a.toList == [1])
                · exact .inr (.inr ⟨h1, by simp [h1], rfl⟩)
                · exact .inr (.inl ⟨h1, by simp [h1], rfl⟩)
              · exact .inl ⟨h1, by simp [h1]⟩
            rcases hcase with ⟨h1, h1d⟩ | ⟨h1, h1d, h2⟩ | ⟨h1, h1d, h2⟩
            all_goals
              go_enter Try.func14, Try.ntmps14
              go_wp2_with (first | (go_at_call 55; refine (HM.out _).mono ?_; rintro e' w1 ⟨rfl, B1⟩) | (go_at_call 21; refine (HRF2.out _).mono ?_; rintro e' w2 ⟨rfl, B2⟩) | (go_at_call 52; with_reducible refine (HLN.out _).mono ?_; rintro e' w' ⟨rfl, rfl⟩) | (go_at_call 56; refine (HRM.out _).mono ?_; rintro e' w3 ⟨rfl, B3⟩) | (go_at_call 23; refine (is_same _ _ _).mono ?_; rintro e' w4 ⟨rfl, rfl⟩) | (go_at_call 19; refine (awake_any _).mono ?_; rintro e wz ⟨rfl, BZ⟩))
              have hw1 : IntKind.i64.wrap ((131072 : Int).tdiv (m : Int)) = (q : Int) := HW1.out
              have hw2 : IntKind.i64.wrap ((q : Int) + 8) = (q : Int) + 8 := by rw [IntKind.wrap_i64]; omega
              go_region_held3 (fun _ => True) (trivial) (first | (go_at_call 52; refine (HLN.out _).mono ?_; rintro e' w' ⟨rfl, rfl⟩))
              clear hw1 hw2
              go_wp2_with (first | (go_at_call 55; refine (HM.out _).mono ?_; rintro e' w1 ⟨rfl, B1⟩) | (go_at_call 21; refine (HRF2.out _).mono ?_; rintro e' w2 ⟨rfl, B2⟩) | (go_at_call 52; with_reducible refine (HLN.out _).mono ?_; rintro e' w' ⟨rfl, rfl⟩) | (go_at_call 56; refine (HRM.out _).mono ?_; rintro e' w3 ⟨rfl, B3⟩) | (go_at_call 23; refine (is_same _ _ _).mono ?_; rintro e' w4 ⟨rfl, rfl⟩) | (go_at_call 19; refine (awake_any _).mono ?_; rintro e wz ⟨rfl, BZ⟩))
              have BD := (B1.on B2).drew
              generalize w2.drew = wq at BD ⊢
              have hw3 : IntKind.i64.wrap ((9600 : Int).tdiv (m : Int)) = (q2 : Int) := HW2.out
              have hw4 : IntKind.i64.wrap ((q2 : Int) + 1) = (q2 : Int) + 1 := by rw [IntKind.wrap_i64]; omega
              go_quiet ((go_at_call 52; exact Calls.quiet_of_same (HLQ.out _)))
              clear hw3 hw4
              go_wp2_with (first | (go_at_call 55; refine (HM.out _).mono ?_; rintro e' w1 ⟨rfl, B1⟩) | (go_at_call 21; refine (HRF2.out _).mono ?_; rintro e' w2 ⟨rfl, B2⟩) | (go_at_call 52; with_reducible refine (HLN.out _).mono ?_; rintro e' w' ⟨rfl, rfl⟩) | (go_at_call 56; refine (HRM.out _).mono ?_; rintro e' w3 ⟨rfl, B3⟩) | (go_at_call 23; refine (is_same _ _ _).mono ?_; rintro e' w4 ⟨rfl, rfl⟩) | (go_at_call 19; refine (awake_any _).mono ?_; rintro e wz ⟨rfl, BZ⟩))
              all_goals (go_ret; first | exact ⟨rfl, ((B1.on B2).on B3).on BZ⟩ | exact ⟨rfl, (B1.on B2).on BZ⟩ | exact ⟨rfl, (B1.on B2).drew.on BZ⟩ | exact ⟨rfl, (B1.on B2).drew.drew.on BZ⟩ | exact ⟨rfl, (below_drewN BD _).on BZ⟩ | exact ⟨rfl, ((below_drewN BD _).on B3).on BZ⟩)
        · clear HF HSH
          go_enter Try.func14, Try.ntmps14
          go_wp2_with (first | (go_at_call 55; refine (HM.out _).mono ?_; rintro e' w1 ⟨rfl, B1⟩) | (go_at_call 21; refine (HRF2.out _).mono ?_; rintro e' w2 ⟨rfl, B2⟩) | (go_at_call 52; with_reducible refine (HLN.out _).mono ?_; rintro e' w' ⟨rfl, rfl⟩) | (go_at_call 56; refine (HRM.out _).mono ?_; rintro e' w3 ⟨rfl, B3⟩) | (go_at_call 23; refine (is_same _ _ _).mono ?_; rintro e' w4 ⟨rfl, rfl⟩) | (go_at_call 19; refine (awake_any _).mono ?_; rintro e wz ⟨rfl, BZ⟩))
          all_goals (go_ret; first | exact ⟨rfl, ((B1.on B2).on B3).on BZ⟩ | exact ⟨rfl, (B1.on B2).on BZ⟩ | exact ⟨rfl, (B1.on B2).drew.on BZ⟩ | exact ⟨rfl, (B1.on B2).drew.drew.on BZ⟩ | exact ⟨rfl, (below_drewN BD _).on BZ⟩ | exact ⟨rfl, ((below_drewN BD _).on B3).on BZ⟩)
      · have hb2 : 131072 < n := by omega
        clear hbig HFAR HSH
        go_enter Try.func14, Try.ntmps14
        go_wp2_with (first | (go_at_call 55; refine (HM.out _).mono ?_; rintro e' w1 ⟨rfl, B1⟩) | (go_at_call 21; refine (HRF2.out _).mono ?_; rintro e' w2 ⟨rfl, B2⟩) | (go_at_call 52; with_reducible refine (HLN.out _).mono ?_; rintro e' w' ⟨rfl, rfl⟩) | (go_at_call 56; refine (HRM.out _).mono ?_; rintro e' w3 ⟨rfl, B3⟩) | (go_at_call 23; refine (is_same _ _ _).mono ?_; rintro e' w4 ⟨rfl, rfl⟩) | (go_at_call 19; refine (awake_any _).mono ?_; rintro e wz ⟨rfl, BZ⟩))
        all_goals (go_ret; first | exact ⟨rfl, ((B1.on B2).on B3).on BZ⟩ | exact ⟨rfl, (B1.on B2).on BZ⟩ | exact ⟨rfl, (B1.on B2).drew.on BZ⟩ | exact ⟨rfl, (B1.on B2).drew.drew.on BZ⟩ | exact ⟨rfl, (below_drewN BD _).on BZ⟩ | exact ⟨rfl, ((below_drewN BD _).on B3).on BZ⟩)
    · clear HFAR HSH
      go_enter Try.func14, Try.ntmps14
      go_wp2_with (first | (go_at_call 55; refine (HM.out _).mono ?_; rintro e' w1 ⟨rfl, B1⟩) | (go_at_call 21; refine (HRF2.out _).mono ?_; rintro e' w2 ⟨rfl, B2⟩) | (go_at_call 52; with_reducible refine (HLN.out _).mono ?_; rintro e' w' ⟨rfl, rfl⟩) | (go_at_call 56; refine (HRM.out _).mono ?_; rintro e' w3 ⟨rfl, B3⟩) | (go_at_call 23; refine (is_same _ _ _).mono ?_; rintro e' w4 ⟨rfl, rfl⟩) | (go_at_call 19; refine (awake_any _).mono ?_; rintro e wz ⟨rfl, BZ⟩))
      all_goals (go_ret; first | exact ⟨rfl, ((B1.on B2).on B3).on BZ⟩ | exact ⟨rfl, (B1.on B2).on BZ⟩ | exact ⟨rfl, (B1.on B2).drew.on BZ⟩ | exact ⟨rfl, (B1.on B2).drew.drew.on BZ⟩ | exact ⟨rfl, (below_drewN BD _).on BZ⟩ | exact ⟨rfl, ((below_drewN BD _).on B3).on BZ⟩)
  · have HRF2 := Lib.hid fun W => HRF.out W true (by simp only [hok, decide_false]; rfl)
    simp only [hok, if_false] at HM
    clear hma hok HRF
    go_enter Try.func14, Try.ntmps14
    go_wp2_with (first | (go_at_call 55; refine (HM.out _).mono ?_; rintro e w1 ⟨rfl, B1⟩) | (go_at_call 21; refine (HRF2.out _).mono ?_; rintro e w2 ⟨rfl, B2⟩) | (go_at_call 19; refine (awake_any _).mono ?_; rintro e wz ⟨rfl, BZ⟩))
    all_goals (go_ret; first | exact ⟨rfl, (B1.on B2).on BZ⟩)

set_option maxRecDepth 100000 in
theorem natPow_lifted (os : Os) (started : os.Started) (H : Type) (enc : TypeId × Value → H) :
    ReturnsInHanded {} Try.checked os 14 .any (Rows.natPowSpec.pre6 enc Try.prog Try.f14 Rows.natPowRow.domain false) (Rows.natPowSpec.post enc Try.prog Try.f14 false true false false) := by
  refine returnsInHanded_of_change_sized (C := Try.checked) Try.own started (by kernel_rfl) Try.func14
    (ChangeSpec.witness6 (enc := enc) (C := Try.checked) false ⟨#[], #[.string ⟨#[]⟩, .int .i64 0], []⟩ 8 (by kernel_rfl) (by kernel_rfl) (by kernel_rfl) (by kernel_rfl)) ?_
  intro W base args ds gs before hval0 hW hcnd hsz0 _
  have hval : ∀ (j : Nat) t v, Try.f14.params[j]? = some t → args[j]? = some v → Value.okWide Try.prog W .any base t v := hval0
  have hsz : (DataW.weightsEach Try.prog (Try.f14.params.toList ++ Rows.natPowSpec.plain.varTypes Try.prog) (ds ++ gs)).all (· ≤ reachBytes) = true := hsz0
  clear hsz0
  have hW' := hW
  obtain ⟨p, q, hA0, hV, rfl, hfz, hnd⟩ := hW
  have hA : DataW.TrodAll enc Try.prog W 0 (fun _ => true) true Try.f14.params.toList args.toList ds p := hA0
  rw [Try.params14] at hA hval hsz
  obtain ⟨v0, vs0, d0, ds0, p0, q0, hargs, rfl, rfl, h0, r0⟩ := trodAll_cons hA
  obtain ⟨v1, vs1, d1, ds1, p1, q1, rfl, rfl, rfl, h1, r1⟩ := trodAll_cons r0
  obtain ⟨rfl, rfl, rfl⟩ := trodAll_nil r1
  obtain rfl : args = #[v0, v1] := by cases args; simp_all
  obtain ⟨rfl, rfl⟩ := trodVars_none hV
  obtain ⟨a0, rfl, rfl, rfl, wa0⟩ := open_string Try.underlying22 (hval 0 22 v0 rfl rfl) h0
  have sz0 : a0.size ≤ 140737488351232 := by
    have h := sized_string hsz (j := 0) (t := 22) rfl rfl
    rw [Array.length_toList] at h; exact h
  obtain ⟨a1, rfl, rfl, rfl, wa1⟩ := open_int Try.underlying3 (hval 1 3 v1 rfl rfl) h1
  clear hA0 hval0
  simp only [List.append_nil] at hW'
  refine (law_NatPow a0 sz0 a1 (i64_bd wa1) W).mono fun e W' ⟨he, hg⟩ => ?_
  subst he
  exact ⟨_, rfl, post_of_below (pa := []) (pv := []) hW' (fun _ _ _ => (trodAll_cons_mk (shut_bool Try.underlying4 _) trodAll_mk0)) (fun _ _ => (trodAll_cons_mk (shut_string Try.underlying22 wa0) (trodAll_cons_mk (shut_int Try.underlying3 wa1) trodAll_mk0))) (fun _ _ => rfl) rfl
    hg (ok_one (by kernel_rfl) rfl (okWide_bool_mk Try.underlying4 _))⟩

theorem natPow_holds : Rows.NatPowSaid :=
  OpenClaim.holds_of_wide 14 Try.f14 rfl rfl rfl rfl rfl rfl rfl ⟨rfl, rfl, rfl, rfl, rfl⟩ rfl rfl rfl rfl rfl (by kernel_rfl) Try.func14 (by kernel_rfl)
    (of_decide_eq_true (by kernel_rfl)) (by unfold Func.isWrapper; rw [if_neg (of_decide_eq_false (by kernel_rfl))]; exact ⟨rfl, rfl⟩)
    (fun os started H enc _ => natPow_lifted os started H enc)
#print axioms natPow_holds

end Go.Proofs.Ytfhkpkebiinglaa
