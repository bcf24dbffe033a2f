/- 2.7: whatever three numbers: sums and products hang on no order and no grouping (numbers that are refused or too long by the statement's own words are passed by), and the calls that each statement asks besides answer as the document has it. Conditions: none. -/
import Derived.Test.YtfhkpkebiinglaaNum
namespace Go.Proofs.Ytfhkpkebiinglaa
open Go.ChangeShapes Go.ChangeMaps Go.WideShapes Go.ChangeAt Go.RowKit Go.Joins
set_option linter.unusedVariables false

theorem ring_sm {A B C na nb nc : Nat} (h1 : A < 256 ^ na) (h2 : B < 256 ^ nb) (h3 : C < 256 ^ nc) (hs : na + nb + nc ≤ 8000) :
    Sm (A + B) ∧ Sm (B + C) ∧ Sm (A + (B + C)) ∧ Sm (A * B) ∧ Sm (B * C) ∧ Sm (A * C) ∧ Sm (A * B * C) ∧ Sm (A * (B + C)) := by
  obtain ⟨K, hK⟩ : ∃ K, K = na + nb + nc := ⟨_, rfl⟩
  have up : ∀ {x i : Nat}, x < 256 ^ i → i ≤ K → x < 256 ^ K := fun h hi => Nat.lt_of_lt_of_le h (Nat.pow_le_pow_right (by omega) hi)
  have mu : ∀ {x y i j : Nat}, x < 256 ^ i → y < 256 ^ j → x * y < 256 ^ (i + j) := fun hx hy => by rw [Nat.pow_add]; exact Nat.mul_lt_mul'' hx hy
  have a := up h1 (by omega)
  have b := up h2 (by omega)
  have c := up h3 (by omega)
  have ab := up (mu h1 h2) (by omega)
  have bc := up (mu h2 h3) (by omega)
  have ac := up (mu h1 h3) (by omega)
  have abc := up (mu (mu h1 h2) h3) (by omega)
  have hp : 256 ^ (K + 1) = 256 ^ K * 256 := Nat.pow_succ ..
  have fin : ∀ {x : Nat}, x < 256 ^ K * 256 → Sm x := fun h => Sm.of_lt (k := K + 1) (by rw [hp]; exact h) (by omega)
  have e : A * (B + C) = A * B + A * C := Nat.mul_add ..
  generalize 256 ^ K = P at *
  exact ⟨fin (by omega), fin (by omega), fin (by omega), fin (by omega), fin (by omega), fin (by omega), fin (by omega), fin (by rw [e]; omega)⟩
set_option maxRecDepth 100000 in
theorem ring_walk (a b c x p l m pc r t u : ByteArray) (ha : a.size ≤ 16384) (hb : b.size ≤ 16384) (hc : c.size ≤ 16384) (hs : (a.size : Int) + b.size + c.size ≤ 8000)
    (H0 : Hid (Ans 32 #[.string a, .string b] (.tuple #[.string x, .int .i64 0])))
    (H1 : Hid (Ans 32 #[.string b, .string a] (.tuple #[.string x, .int .i64 0])))
    (H2 : Hid (Ans 20 #[.string a, .string b] (.tuple #[.string p, .int .i64 0])))
    (H3 : Hid (Ans 20 #[.string b, .string a] (.tuple #[.string p, .int .i64 0])))
    (H4 : Hid (Ans 33 #[.string x, .string b] (.tuple #[.string a, .int .i64 0])))
    (H5 : Hid (Ans 32 #[.string x, .string c] (.tuple #[.string l, .int .i64 0])))
    (H6 : Hid (Ans 32 #[.string b, .string c] (.tuple #[.string m, .int .i64 0])))
    (H7 : Hid (Ans 32 #[.string a, .string m] (.tuple #[.string l, .int .i64 0])))
    (H8 : Hid (Ans 20 #[.string p, .string c] (.tuple #[.string pc, .int .i64 0])))
    (H9 : Hid (Ans 20 #[.string b, .string c] (.tuple #[.string r, .int .i64 0])))
    (H10 : Hid (Ans 20 #[.string a, .string r] (.tuple #[.string pc, .int .i64 0])))
    (H11 : Hid (Ans 20 #[.string a, .string m] (.tuple #[.string t, .int .i64 0])))
    (H12 : Hid (Ans 20 #[.string a, .string c] (.tuple #[.string u, .int .i64 0])))
    (H13 : Hid (Ans 32 #[.string p, .string u] (.tuple #[.string t, .int .i64 0])))
    (HRF : Hid (∀ w : World, Calls Try.prog 21 #[.slice (some ⟨w.heap.size, 0, none⟩) 3 3] (w.alloc (.cells #[.string a, .string b, .string c] 22)) fun e w' => e = .returned (.bool false) ∧ Below w.heap.size w w'))
    (HS : Hid (∀ w : World, Calls Try.prog 34 #[.slice (some ⟨w.heap.size, 0, none⟩) 3 3] (w.alloc (.cells #[.string a, .string b, .string c] 22)) fun e w' => e = .returned (.tuple #[.string l, .int .i64 0]) ∧ Below w.heap.size w w')) (w : World) :
    Calls Try.prog 10 #[.string a, .string b, .string c] w fun e w' => e = .returned (.bool true) ∧ Below w.heap.size w w' := by
  go_enter Try.func10, Try.ntmps10
  go_wp2_with (first | (go_at_call 21; refine (HRF.out _).mono ?_; rintro e w1 ⟨rfl, B1⟩) | (go_at_call 32; with_reducible refine (H0.out.call _).mono ?_; rintro e w2 ⟨rfl, B2⟩) | (go_at_call 32; with_reducible refine (H1.out.call _).mono ?_; rintro e w3 ⟨rfl, B3⟩) | (go_at_call 20; with_reducible refine (H2.out.call _).mono ?_; rintro e w4 ⟨rfl, B4⟩) | (go_at_call 20; with_reducible refine (H3.out.call _).mono ?_; rintro e w5 ⟨rfl, B5⟩) | (go_at_call 33; with_reducible refine (H4.out.call _).mono ?_; rintro e w6 ⟨rfl, B6⟩) | (go_at_call 32; with_reducible refine (H5.out.call _).mono ?_; rintro e w7 ⟨rfl, B7⟩) | (go_at_call 32; with_reducible refine (H6.out.call _).mono ?_; rintro e w8 ⟨rfl, B8⟩) | (go_at_call 32; with_reducible refine (H7.out.call _).mono ?_; rintro e w9 ⟨rfl, B9⟩) | (go_at_call 20; with_reducible refine (H8.out.call _).mono ?_; rintro e w10 ⟨rfl, B10⟩) | (go_at_call 20; with_reducible refine (H9.out.call _).mono ?_; rintro e w11 ⟨rfl, B11⟩) | (go_at_call 20; with_reducible refine (H10.out.call _).mono ?_; rintro e w12 ⟨rfl, B12⟩) | (go_at_call 20; with_reducible refine (H11.out.call _).mono ?_; rintro e w13 ⟨rfl, B13⟩) | (go_at_call 20; with_reducible refine (H12.out.call _).mono ?_; rintro e w14 ⟨rfl, B14⟩) | (go_at_call 32; with_reducible refine (H13.out.call _).mono ?_; rintro e w15 ⟨rfl, B15⟩) | (go_at_call 34; refine (HS.out _).mono ?_; rintro e wS ⟨rfl, BS⟩) | (go_at_call 19; refine (awake_any _).mono ?_; rintro e wz ⟨rfl, BZ⟩))
  go_ret
  exact ⟨rfl, (((((((((((((((B1.on B2).on B3).on B4).on B5).on B6).on B7).on B8).on B9).on BS).on B10).on B11).on B12).on B13).on B14).on B15).on BZ⟩

set_option maxRecDepth 100000 in
theorem law_NatRing (a : ByteArray) (ha : a.size ≤ 140737488351232) (b : ByteArray) (hb : b.size ≤ 140737488351232) (c : ByteArray) (hc : c.size ≤ 140737488351232) (w : World) :
    Calls Try.prog 10 #[.string a, .string b, .string c] w fun e w' => e = .returned (.bool true) ∧ Below w.heap.size w w' := by
  have hma : a.size ≤ maxLen := by unfold maxLen; omega
  have hmb : b.size ≤ maxLen := by unfold maxLen; omega
  have hmc : c.size ≤ maxLen := by unfold maxLen; omega
  have HRF := Lib.hid fun W t ht => refused_three a b c W hma hmb hmc t ht
  clear hma hmb hmc
  by_cases hok : Ok a ∧ Ok b ∧ Ok c
  · have HRF2 := Lib.hid fun W => HRF.out W false (by simp [hok])
    clear HRF
    by_cases hs : a.size + b.size + c.size ≤ 8000
    · obtain ⟨h1, h2, h3⟩ := hok
      have e1 := enc_bval a h1
      have e2 := enc_bval b h2
      have e3 := enc_bval c h3
      have v1 := bval_lt a
      have v2 := bval_lt b
      have v3 := bval_lt c
      have s1 := Sm.of_ok h1
      have s2 := Sm.of_ok h2
      have s3 := Sm.of_ok h3
      refine ring_walk a b c (enc (bval a + bval b)) (enc (bval a * bval b)) (enc (bval a + (bval b + bval c))) (enc (bval b + bval c)) (enc (bval a * bval b * bval c)) (enc (bval b * bval c)) (enc (bval a * (bval b + bval c))) (enc (bval a * bval c)) h1.1 h2.1 h3.1 (by omega) ?_ ?_ ?_ ?_ ?_ ?_ ?_ ?_ ?_ ?_ ?_ ?_ ?_ ?_ HRF2 ?_ w
      all_goals clear HRF2
      all_goals generalize bval a = A at *
      all_goals generalize bval b = B at *
      all_goals generalize bval c = C at *
      all_goals obtain ⟨q1, q2, q3, q4, q5, q6, q7, q8⟩ := ring_sm v1 v2 v3 hs
      · have h := add_e s1 s2 q1; rw [e1, e2] at h; exact h
      · have h := add_e s2 s1 (by rw [Nat.add_comm]; exact q1); rw [e1, e2, Nat.add_comm B A] at h; exact h
      · have h := mul_e s1 s2 q4; rw [e1, e2] at h; exact h
      · have h := mul_e s2 s1 (by rw [Nat.mul_comm]; exact q4); rw [e1, e2, Nat.mul_comm B A] at h; exact h
      · have h := sub_e q1 s2 (Nat.le_add_left _ _); rw [Nat.add_sub_cancel, e1, e2] at h; exact h
      · have h := add_e q1 s3 (by rw [Nat.add_assoc]; exact q3); rw [Nat.add_assoc, e3] at h; exact h
      · have h := add_e s2 s3 q2; rw [e2, e3] at h; exact h
      · have h := add_e s1 q2 q3; rw [e1] at h; exact h
      · have h := mul_e q4 s3 q7; rw [e3] at h; exact h
      · have h := mul_e s2 s3 q5; rw [e2, e3] at h; exact h
      · have h := mul_e s1 q5 (by rw [← Nat.mul_assoc]; exact q7); rw [← Nat.mul_assoc, e1] at h; exact h
      · have h := mul_e s1 q2 q8; rw [e1] at h; exact h
      · have h := mul_e s1 s3 q6; rw [e1, e3] at h; exact h
      · have h := add_e q4 q6 (by rw [← Nat.mul_add]; exact q8); rw [← Nat.mul_add] at h; exact h
      · intro W; have h := sum_e s1 s2 s3 q3 W; rw [e1, e2, e3] at h; exact h
    · have hsz : (8000 : Int) < (a.size : Int) + b.size + c.size := by omega
      clear hs hok
      go_enter Try.func10, Try.ntmps10
      go_wp2_with (first | (go_at_call 21; refine (HRF2.out _).mono ?_; rintro e w1 ⟨rfl, B1⟩) | (go_at_call 19; refine (awake_any _).mono ?_; rintro e wz ⟨rfl, BZ⟩))
      go_ret
      exact ⟨rfl, B1.on BZ⟩
  · have HRF2 := Lib.hid fun W => HRF.out W true (by simp only [hok, decide_false]; rfl)
    clear hok HRF
    go_enter Try.func10, Try.ntmps10
    go_wp2_with (first | (go_at_call 21; refine (HRF2.out _).mono ?_; rintro e w1 ⟨rfl, B1⟩) | (go_at_call 19; refine (awake_any _).mono ?_; rintro e wz ⟨rfl, BZ⟩))
    go_ret
    exact ⟨rfl, B1.on BZ⟩

set_option maxRecDepth 100000 in
theorem natRing_lifted (os : Os) (started : os.Started) (H : Type) (enc : TypeId × Value → H) :
    ReturnsInHanded {} Try.checked os 10 .any (Rows.natRingSpec.pre6 enc Try.prog Try.f10 Rows.natRingRow.domain false) (Rows.natRingSpec.post enc Try.prog Try.f10 false true false false) := by
  refine returnsInHanded_of_change_sized (C := Try.checked) Try.own started (by kernel_rfl) Try.func10
    (ChangeSpec.witness6 (enc := enc) (C := Try.checked) false ⟨#[], #[.string ⟨#[]⟩, .string ⟨#[]⟩, .string ⟨#[]⟩], []⟩ 8 (by kernel_rfl) (by kernel_rfl) (by kernel_rfl) (by kernel_rfl)) ?_
  intro W base args ds gs before hval0 hW hcnd hsz0 _
  have hval : ∀ (j : Nat) t v, Try.f10.params[j]? = some t → args[j]? = some v → Value.okWide Try.prog W .any base t v := hval0
  have hsz : (DataW.weightsEach Try.prog (Try.f10.params.toList ++ Rows.natRingSpec.plain.varTypes Try.prog) (ds ++ gs)).all (· ≤ reachBytes) = true := hsz0
  clear hsz0
  have hW' := hW
  obtain ⟨p, q, hA0, hV, rfl, hfz, hnd⟩ := hW
  have hA : DataW.TrodAll enc Try.prog W 0 (fun _ => true) true Try.f10.params.toList args.toList ds p := hA0
  rw [Try.params10] at hA hval hsz
  obtain ⟨v0, vs0, d0, ds0, p0, q0, hargs, rfl, rfl, h0, r0⟩ := trodAll_cons hA
  obtain ⟨v1, vs1, d1, ds1, p1, q1, rfl, rfl, rfl, h1, r1⟩ := trodAll_cons r0
  obtain ⟨v2, vs2, d2, ds2, p2, q2, rfl, rfl, rfl, h2, r2⟩ := trodAll_cons r1
  obtain ⟨rfl, rfl, rfl⟩ := trodAll_nil r2
  obtain rfl : args = #[v0, v1, v2] := by cases args; simp_all
  obtain ⟨rfl, rfl⟩ := trodVars_none hV
  obtain ⟨a0, rfl, rfl, rfl, wa0⟩ := open_string Try.underlying22 (hval 0 22 v0 rfl rfl) h0
  have sz0 : a0.size ≤ 140737488351232 := by
    have h := sized_string hsz (j := 0) (t := 22) rfl rfl
    rw [Array.length_toList] at h; exact h
  obtain ⟨a1, rfl, rfl, rfl, wa1⟩ := open_string Try.underlying22 (hval 1 22 v1 rfl rfl) h1
  have sz1 : a1.size ≤ 140737488351232 := by
    have h := sized_string hsz (j := 1) (t := 22) rfl rfl
    rw [Array.length_toList] at h; exact h
  obtain ⟨a2, rfl, rfl, rfl, wa2⟩ := open_string Try.underlying22 (hval 2 22 v2 rfl rfl) h2
  have sz2 : a2.size ≤ 140737488351232 := by
    have h := sized_string hsz (j := 2) (t := 22) rfl rfl
    rw [Array.length_toList] at h; exact h
  clear hA0 hval0
  simp only [List.append_nil] at hW'
  refine (law_NatRing a0 sz0 a1 sz1 a2 sz2 W).mono fun e W' ⟨he, hg⟩ => ?_
  subst he
  exact ⟨_, rfl, post_of_below (pa := []) (pv := []) hW' (fun _ _ _ => (trodAll_cons_mk (shut_bool Try.underlying4 _) trodAll_mk0)) (fun _ _ => (trodAll_cons_mk (shut_string Try.underlying22 wa0) (trodAll_cons_mk (shut_string Try.underlying22 wa1) (trodAll_cons_mk (shut_string Try.underlying22 wa2) trodAll_mk0)))) (fun _ _ => rfl) rfl
    hg (ok_one (by kernel_rfl) rfl (okWide_bool_mk Try.underlying4 _))⟩

theorem natRing_holds : Rows.NatRingSaid :=
  OpenClaim.holds_of_wide 10 Try.f10 rfl rfl rfl rfl rfl rfl rfl ⟨rfl, rfl, rfl, rfl, rfl⟩ rfl rfl rfl rfl rfl (by kernel_rfl) Try.func10 (by kernel_rfl)
    (of_decide_eq_true (by kernel_rfl)) (by unfold Func.isWrapper; rw [if_neg (of_decide_eq_false (by kernel_rfl))]; exact ⟨rfl, rfl⟩)
    (fun os started H enc _ => natRing_lifted os started H enc)
#print axioms natRing_holds

end Go.Proofs.Ytfhkpkebiinglaa
