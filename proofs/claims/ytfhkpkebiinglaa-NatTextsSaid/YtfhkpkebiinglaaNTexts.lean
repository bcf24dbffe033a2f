/- 2.9: a number's decimal text and a text's number are the document's, and the calls that each statement asks besides answer as the document has it. Conditions: none. -/
import Derived.Test.YtfhkpkebiinglaaRtx
namespace Go.Proofs.Ytfhkpkebiinglaa
open Go.ChangeShapes Go.ChangeMaps Go.WideShapes Go.ChangeAt Go.RowKit Go.Joins
set_option linter.unusedVariables false

set_option maxRecDepth 100000 in
set_option maxHeartbeats 2000000 in
theorem texts_ok (a s d b : ByteArray) (eb : Int) (hsa : a.size ≤ 140737488351232) (hss : s.size ≤ 140737488351232)
    (HTA : Hid (∀ w : World, Calls Try.prog 40 #[.string a] w fun e w' => e = .returned (.tuple #[.string d, .int .i64 0]) ∧ Below w.heap.size w w'))
    (HRF : Hid (∀ w : World, Calls Try.prog 21 #[.slice (some ⟨w.heap.size, 0, none⟩) 1 1] (w.alloc (.cells #[.string a] 22)) fun e w' => e = .returned (.bool false) ∧ Below w.heap.size w w'))
    (HXT : Hid (∀ w : World, Calls Try.prog 41 #[.string a] w fun e w' => e = .returned (.string d) ∧ Below w.heap.size w w'))
    (HRD : Hid (∀ w : World, Calls Try.prog 42 #[.string s] w fun e' w' => e' = .returned (.tuple #[.string b, .int .i64 eb]) ∧ Below w.heap.size w w'))
    (HRR : Hid (∀ w : World, Calls Try.prog 43 #[.string s] w fun e' w' => e' = .returned (.tuple #[.string b, .int .i64 eb]) ∧ Below w.heap.size w w')) (w : World) :
    Calls Try.prog 12 #[.string a, .string s] w fun e' w' => e' = .returned (.bool true) ∧ Below w.heap.size w w' := by
  have hcs : (¬ (3600 : Int) < (s.size : Int)) ∨ ((3600 : Int) < (s.size : Int) ∧ (s.size : Int) ≤ 49152) ∨ ((3600 : Int) < (s.size : Int) ∧ ¬ (s.size : Int) ≤ 49152) := by omega
  have hca : ((a.size : Int) ≤ 1200) ∨ (¬ (a.size : Int) ≤ 1200) := by omega
  rcases hca with ha1 | ha1 <;> rcases hcs with h1 | ⟨h1, h2⟩ | ⟨h1, h2⟩
  all_goals
    go_enter Try.func12, Try.ntmps12
    go_wp2_with (first | (go_at_call 40; with_reducible refine (HTA.out _).mono ?_; rintro e w1 ⟨rfl, B1⟩) | (go_at_call 21; refine (HRF.out _).mono ?_; rintro e w2 ⟨rfl, B2⟩) | (go_at_call 41; with_reducible refine (HXT.out _).mono ?_; rintro e w3 ⟨rfl, B3⟩) | (go_at_call 42; with_reducible refine (HRD.out _).mono ?_; rintro e w4 ⟨rfl, B4⟩) | (go_at_call 43; with_reducible refine (HRR.out _).mono ?_; rintro e w5 ⟨rfl, B5⟩) | (go_at_call 19; refine (awake_any _).mono ?_; rintro e wz ⟨rfl, BZ⟩))
    all_goals (go_ret; exact ⟨rfl, by repeat (first | assumption | refine Below.on ?_ (by assumption))⟩)
set_option maxRecDepth 100000 in
set_option maxHeartbeats 2000000 in
theorem texts_bad (a s d b : ByteArray) (eb : Int) (hsa : a.size ≤ 140737488351232) (hss : s.size ≤ 140737488351232)
    (HTA : Hid (∀ w : World, Calls Try.prog 40 #[.string a] w fun e w' => e = .returned (.tuple #[.string ⟨#[]⟩, .int .i64 2]) ∧ Below w.heap.size w w'))
    (HRF : Hid (∀ w : World, Calls Try.prog 21 #[.slice (some ⟨w.heap.size, 0, none⟩) 1 1] (w.alloc (.cells #[.string a] 22)) fun e w' => e = .returned (.bool true) ∧ Below w.heap.size w w'))
    (HRD : Hid (∀ w : World, Calls Try.prog 42 #[.string s] w fun e' w' => e' = .returned (.tuple #[.string b, .int .i64 eb]) ∧ Below w.heap.size w w'))
    (HRR : Hid (∀ w : World, Calls Try.prog 43 #[.string s] w fun e' w' => e' = .returned (.tuple #[.string b, .int .i64 eb]) ∧ Below w.heap.size w w')) (w : World) :
    Calls Try.prog 12 #[.string a, .string s] w fun e' w' => e' = .returned (.bool true) ∧ Below w.heap.size w w' := by
  have hcs : (¬ (3600 : Int) < (s.size : Int)) ∨ ((3600 : Int) < (s.size : Int) ∧ (s.size : Int) ≤ 49152) ∨ ((3600 : Int) < (s.size : Int) ∧ ¬ (s.size : Int) ≤ 49152) := by omega
  rcases hcs with h1 | ⟨h1, h2⟩ | ⟨h1, h2⟩
  all_goals
    go_enter Try.func12, Try.ntmps12
    go_wp2_with (first | (go_at_call 40; with_reducible refine (HTA.out _).mono ?_; rintro e w1 ⟨rfl, B1⟩) | (go_at_call 21; refine (HRF.out _).mono ?_; rintro e w2 ⟨rfl, B2⟩) | (go_at_call 42; with_reducible refine (HRD.out _).mono ?_; rintro e w4 ⟨rfl, B4⟩) | (go_at_call 43; with_reducible refine (HRR.out _).mono ?_; rintro e w5 ⟨rfl, B5⟩) | (go_at_call 19; refine (awake_any _).mono ?_; rintro e wz ⟨rfl, BZ⟩))
    all_goals (go_ret; exact ⟨rfl, by repeat (first | assumption | refine Below.on ?_ (by assumption))⟩)
theorem read_both (s : ByteArray) (hs : s.size ≤ maxLen) : ∃ b eb, (∀ w : World, Calls Try.prog 42 #[.string s] w fun e' w' => e' = .returned (.tuple #[.string b, .int .i64 eb]) ∧ Below w.heap.size w w') ∧ (∀ w : World, Calls Try.prog 43 #[.string s] w fun e' w' => e' = .returned (.tuple #[.string b, .int .i64 eb]) ∧ Below w.heap.size w w') := by
  have key : ∀ b eb, readIs s (.tuple #[.string b, .int .i64 eb]) → (∀ w : World, Calls Try.prog 42 #[.string s] w fun e' w' => e' = .returned (.tuple #[.string b, .int .i64 eb]) ∧ Below w.heap.size w w') ∧ (∀ w : World, Calls Try.prog 43 #[.string s] w fun e' w' => e' = .returned (.tuple #[.string b, .int .i64 eb]) ∧ Below w.heap.size w w') := by
    intro b eb hv
    refine ⟨fun w => (Read_any s hs w).mono ?_, fun w => (rRead_any s hs w).mono ?_⟩ <;>
    · rintro e w' ⟨⟨v', hv', rfl⟩, hb⟩
      exact ⟨by rw [hv'.eq hv], hb⟩
  by_cases hd : DigOk s
  · by_cases hb : 49152 < s.size
    · exact ⟨⟨#[]⟩, 4, key _ _ (.inr (.inl ⟨hd, hb, rfl⟩))⟩
    · exact ⟨_, _, key (endS (tval s)) (endE (tval s)) (.inr (.inr ⟨hd, by omega, by unfold endN; rfl⟩))⟩
  · exact ⟨⟨#[]⟩, 22, key _ _ (.inl ⟨hd, rfl⟩)⟩
theorem law_NatTexts (a : ByteArray) (ha : a.size ≤ 140737488351232) (s : ByteArray) (hs : s.size ≤ 140737488351232) (w : World) :
    Calls Try.prog 12 #[.string a, .string s] w fun e w' => e = .returned (.bool true) ∧ Below w.heap.size w w' := by
  have hma : a.size ≤ maxLen := by unfold maxLen; omega
  obtain ⟨b, eb, h1, h2⟩ := read_both s (by unfold maxLen; omega)
  have HT := fun w => Text_any a w hma
  have HRF := fun W t ht => refused_one a W hma t ht
  by_cases hok : Ok a
  · have HRF2 := fun W => HRF W false (by simp [hok])
    simp only [hok, if_true] at HT
    exact texts_ok a s (dec (bval a)) b eb ha hs HT HRF2 (rText_any a hok) h1 h2 w
  · have HRF2 := fun W => HRF W true (by simp only [hok, decide_false]; rfl)
    simp only [hok, if_false] at HT
    exact texts_bad a s ⟨#[]⟩ b eb ha hs HT HRF2 h1 h2 w

set_option maxRecDepth 100000 in
theorem natTexts_lifted (os : Os) (started : os.Started) (H : Type) (enc : TypeId × Value → H) :
    ReturnsInHanded {} Try.checked os 12 .any (Rows.natTextsSpec.pre6 enc Try.prog Try.f12 Rows.natTextsRow.domain false) (Rows.natTextsSpec.post enc Try.prog Try.f12 false true false false) := by
  refine returnsInHanded_of_change_sized (C := Try.checked) Try.own started (by kernel_rfl) Try.func12
    (ChangeSpec.witness6 (enc := enc) (C := Try.checked) false ⟨#[], #[.string ⟨#[]⟩, .string ⟨#[]⟩], []⟩ 8 (by kernel_rfl) (by kernel_rfl) (by kernel_rfl) (by kernel_rfl)) ?_
  intro W base args ds gs before hval0 hW hcnd hsz0 _
  have hval : ∀ (j : Nat) t v, Try.f12.params[j]? = some t → args[j]? = some v → Value.okWide Try.prog W .any base t v := hval0
  have hsz : (DataW.weightsEach Try.prog (Try.f12.params.toList ++ Rows.natTextsSpec.plain.varTypes Try.prog) (ds ++ gs)).all (· ≤ reachBytes) = true := hsz0
  clear hsz0
  have hW' := hW
  obtain ⟨p, q, hA0, hV, rfl, hfz, hnd⟩ := hW
  have hA : DataW.TrodAll enc Try.prog W 0 (fun _ => true) true Try.f12.params.toList args.toList ds p := hA0
  rw [Try.params12] at hA hval hsz
  obtain ⟨v0, vs0, d0, ds0, p0, q0, hargs, rfl, rfl, h0, r0⟩ := trodAll_cons hA
  obtain ⟨v1, vs1, d1, ds1, p1, q1, rfl, rfl, rfl, h1, r1⟩ := trodAll_cons r0
  obtain ⟨rfl, rfl, rfl⟩ := trodAll_nil r1
  obtain rfl : args = #[v0, v1] := by cases args; simp_all
  obtain ⟨rfl, rfl⟩ := trodVars_none hV
  obtain ⟨a0, rfl, rfl, rfl, wa0⟩ := open_string Try.underlying22 (hval 0 22 v0 rfl rfl) h0
  have sz0 : a0.size ≤ 140737488351232 := by
    have h := sized_string hsz (j := 0) (t := 22) rfl rfl
    rw [Array.length_toList] at h; exact h
  obtain ⟨a1, rfl, rfl, rfl, wa1⟩ := open_string Try.underlying9 (hval 1 9 v1 rfl rfl) h1
  have sz1 : a1.size ≤ 140737488351232 := by
    have h := sized_string hsz (j := 1) (t := 9) rfl rfl
    rw [Array.length_toList] at h; exact h
  clear hA0 hval0
  simp only [List.append_nil] at hW'
  refine (law_NatTexts a0 sz0 a1 sz1 W).mono fun e W' ⟨he, hg⟩ => ?_
  subst he
  exact ⟨_, rfl, post_of_below (pa := []) (pv := []) hW' (fun _ _ _ => (trodAll_cons_mk (shut_bool Try.underlying4 _) trodAll_mk0)) (fun _ _ => (trodAll_cons_mk (shut_string Try.underlying22 wa0) (trodAll_cons_mk (shut_string Try.underlying9 wa1) trodAll_mk0))) (fun _ _ => rfl) rfl
    hg (ok_one (by kernel_rfl) rfl (okWide_bool_mk Try.underlying4 _))⟩

theorem natTexts_holds : Rows.NatTextsSaid :=
  OpenClaim.holds_of_wide 12 Try.f12 rfl rfl rfl rfl rfl rfl rfl ⟨rfl, rfl, rfl, rfl, rfl⟩ rfl rfl rfl rfl rfl (by kernel_rfl) Try.func12 (by kernel_rfl)
    (of_decide_eq_true (by kernel_rfl)) (by unfold Func.isWrapper; rw [if_neg (of_decide_eq_false (by kernel_rfl))]; exact ⟨rfl, rfl⟩)
    (fun os started H enc _ => natTexts_lifted os started H enc)
#print axioms natTexts_holds

end Go.Proofs.Ytfhkpkebiinglaa
