/- 2.1, 2.2: of every bytes, number and place: Check, Of, Small, Len, Low, Bit answer as the document's, and the calls that each statement asks besides answer as the document has it. Conditions: none. -/
import Derived.Test.YtfhkpkebiinglaaTwo
namespace Go.Proofs.Ytfhkpkebiinglaa
open Go.ChangeShapes Go.ChangeMaps Go.WideShapes Go.ChangeAt Go.RowKit Go.Joins
set_option linter.unusedVariables false

theorem Below.all {w0 w1 w2 : World} (h : Below w0.heap.size w0 w1) (k : Below w1.heap.size w1 w2) : Below w0.heap.size w0 w2 := h.on k
set_option maxRecDepth 100000 in
set_option maxHeartbeats 1000000 in
theorem law_NatOne (a : ByteArray) (ha : a.size ≤ 140737488351232) (n : Int) (hn : 0 ≤ n ∧ n < 18446744073709551616) (i : Int) (hi : -9223372036854775808 ≤ i ∧ i < 9223372036854775808) (w : World) :
    Calls Try.prog 13 #[.string a, .int .u64 n, .int .i64 i] w fun e w' => e = .returned (.bool true) ∧ Below w.heap.size w w' := by
  have hma : a.size ≤ maxLen := by unfold maxLen; omega
  have hs : ∃ (sv : Int) (st : Bool), (if Ok a ∧ a.size ≤ 8 then (.tuple #[.int .u64 (bval a : Nat), .bool true] : Value) else .tuple #[.int .u64 0, .bool false]) = .tuple #[.int .u64 sv, .bool st] := by
    split; exact ⟨_, _, rfl⟩; exact ⟨_, _, rfl⟩
  obtain ⟨sv, st, hs⟩ := hs
  have hs1 := fun W => Small_any a W hma
  have hs2 := fun W => rSmall_any a hma W
  simp only [hs] at hs1 hs2
  have HS := Lib.hid hs1
  have HRS := Lib.hid hs2
  obtain ⟨k, rfl⟩ : ∃ k : Nat, n = (k : Int) := ⟨n.toNat, by omega⟩
  have HO := Lib.hid fun W => Of_any k (by omega) W
  have HRO := Lib.hid fun W => rOf_any k (by omega) W
  generalize enc k = ek at HO HRO
  have hc := fun W => Check_any a W hma
  have hl := fun W => Len_any a W hma
  have hlow := fun W => Low_any a W hma
  have hb := fun W => Bit_any a i hi W hma
  have HRF := Lib.hid fun W t ht => refused_one a W hma t ht
  clear hs1 hs2 hs hn
  by_cases hok : Ok a
  · have HRF2 := Lib.hid fun W => HRF.out W false (by simp [hok])
    simp only [hok, if_true, true_and, true_implies] at hc hl hlow hb
    have HRL := Lib.hid fun W => rLen_any a (by have := hok.1; omega) W
    have HC := Lib.hid hc
    have HL := Lib.hid hl
    have HLO := Lib.hid hlow
    have HRLO := Lib.hid fun W => rLow_any a hok W
    have HRB := Lib.hid fun j hj W => rBit_any a (by have := hok.1; omega) j hj W
    have HEQ := Lib.hid fun x y (h1 : LowIs (bval a) x) (h2 : LowIs (bval a) y) => h1.eq h2
    clear hc hl hlow HRF hma hok ha
    generalize blen (bval a) = L at *
    by_cases h0 : 0 ≤ i
    · simp only [h0, if_true] at hb
      obtain ⟨j, rfl⟩ : ∃ j : Nat, i = (j : Int) := ⟨i.toNat, by omega⟩
      have HRB2 := Lib.hid fun W => HRB.out j (by omega) W
      rw [Int.toNat_natCast] at hb
      have hbl : bval a / 2 ^ j % 2 < 2 := Nat.mod_lt _ (by omega)
      have HB := Lib.hid hb
      have hnz : ¬ (j : Int) < 0 := by omega
      clear hb hi h0 HRB
      generalize bval a / 2 ^ j % 2 = bv at *
      go_enter Try.func13, Try.ntmps13
      go_wp2_with (first | (go_at_call 44; refine (HS.out _).mono ?_; rintro e' w1 ⟨rfl, B1⟩) | (go_at_call 45; refine (HRS.out _).mono ?_; rintro e' w' ⟨rfl, rfl⟩) | (go_at_call 46; refine (HC.out _).mono ?_; rintro e' w2 ⟨rfl, B2⟩) | (go_at_call 47; refine (HO.out _).mono ?_; rintro e' w4 ⟨rfl, B4⟩) | (go_at_call 48; refine (HRO.out _).mono ?_; rintro e' w5 ⟨rfl, B5⟩) | (go_at_call 21; refine (HRF2.out _).mono ?_; rintro e' w3 ⟨rfl, B3⟩) | (go_at_call 49; refine (HL.out _).mono ?_; rintro e' w6 ⟨rfl, B6⟩) | (go_at_call 50; refine (HLO.out _).mono ?_; rintro e' w7 ⟨lo, hlo, rfl, B7⟩; have HLX := Lib.hid hlo; clear hlo) | (go_at_call 51; refine (HB.out _).mono ?_; rintro e' w8 ⟨rfl, B8⟩) | (go_at_call 52; refine (HRL.out _).mono ?_; rintro e' w' ⟨rfl, rfl⟩) | (go_at_call 53; refine (HRLO.out _).mono ?_; rintro e' w' ⟨lo2, hlo2, rfl, rfl⟩; have hll := HEQ.out _ _ hlo2 HLX.out; subst hll; clear hlo2) | (go_at_call 54; refine (HRB2.out _).mono ?_; rintro e' w' ⟨rfl, rfl⟩) | (go_at_call 19; refine (awake_any _).mono ?_; rintro e wz ⟨rfl, BZ⟩))
      go_ret
      exact ⟨rfl, by repeat (first | assumption | refine Below.on ?_ (by assumption))⟩
    · simp only [h0, if_false] at hb
      have hneg : i < 0 := by omega
      have HB := Lib.hid hb
      clear hb hi h0 HRB
      go_enter Try.func13, Try.ntmps13
      go_wp2_with (first | (go_at_call 44; refine (HS.out _).mono ?_; rintro e' w1 ⟨rfl, B1⟩) | (go_at_call 45; refine (HRS.out _).mono ?_; rintro e' w' ⟨rfl, rfl⟩) | (go_at_call 46; refine (HC.out _).mono ?_; rintro e' w2 ⟨rfl, B2⟩) | (go_at_call 47; refine (HO.out _).mono ?_; rintro e' w4 ⟨rfl, B4⟩) | (go_at_call 48; refine (HRO.out _).mono ?_; rintro e' w5 ⟨rfl, B5⟩) | (go_at_call 21; refine (HRF2.out _).mono ?_; rintro e' w3 ⟨rfl, B3⟩) | (go_at_call 49; refine (HL.out _).mono ?_; rintro e' w6 ⟨rfl, B6⟩) | (go_at_call 50; refine (HLO.out _).mono ?_; rintro e' w7 ⟨lo, hlo, rfl, B7⟩; have HLX := Lib.hid hlo; clear hlo) | (go_at_call 51; refine (HB.out _).mono ?_; rintro e' w8 ⟨rfl, B8⟩) | (go_at_call 52; refine (HRL.out _).mono ?_; rintro e' w' ⟨rfl, rfl⟩) | (go_at_call 53; refine (HRLO.out _).mono ?_; rintro e' w' ⟨lo2, hlo2, rfl, rfl⟩; have hll := HEQ.out _ _ hlo2 HLX.out; subst hll; clear hlo2) | (go_at_call 19; refine (awake_any _).mono ?_; rintro e wz ⟨rfl, BZ⟩))
      go_ret
      exact ⟨rfl, by repeat (first | assumption | refine Below.on ?_ (by assumption))⟩
  · have HRF2 := Lib.hid fun W => HRF.out W true (by simp only [hok, decide_false]; rfl)
    simp only [hok, if_false, false_and] at hc hl hlow hb
    have HC := Lib.hid hc
    have HL := Lib.hid hl
    have HLO := Lib.hid hlow
    have HB := Lib.hid hb
    have HEQ : True := trivial
    have HRL := HS
    have HRLO := HS
    clear hc hl hlow hb HRF hma hok ha hi
    go_enter Try.func13, Try.ntmps13
    go_wp2_with (first | (go_at_call 44; refine (HS.out _).mono ?_; rintro e' w1 ⟨rfl, B1⟩) | (go_at_call 45; refine (HRS.out _).mono ?_; rintro e' w' ⟨rfl, rfl⟩) | (go_at_call 46; refine (HC.out _).mono ?_; rintro e' w2 ⟨rfl, B2⟩) | (go_at_call 47; refine (HO.out _).mono ?_; rintro e' w4 ⟨rfl, B4⟩) | (go_at_call 48; refine (HRO.out _).mono ?_; rintro e' w5 ⟨rfl, B5⟩) | (go_at_call 21; refine (HRF2.out _).mono ?_; rintro e' w3 ⟨rfl, B3⟩) | (go_at_call 49; refine (HL.out _).mono ?_; rintro e' w6 ⟨rfl, B6⟩) | (go_at_call 50; refine (HLO.out _).mono ?_; rintro e' w7 ⟨lo, hlo, rfl, B7⟩; clear hlo) | (go_at_call 51; refine (HB.out _).mono ?_; rintro e' w8 ⟨rfl, B8⟩) | (go_at_call 19; refine (awake_any _).mono ?_; rintro e wz ⟨rfl, BZ⟩))
    go_ret
    exact ⟨rfl, by repeat (first | assumption | refine Below.on ?_ (by assumption))⟩

set_option maxRecDepth 100000 in
theorem natOne_lifted (os : Os) (started : os.Started) (H : Type) (enc : TypeId × Value → H) :
    ReturnsInHanded {} Try.checked os 13 .any (Rows.natOneSpec.pre6 enc Try.prog Try.f13 Rows.natOneRow.domain false) (Rows.natOneSpec.post enc Try.prog Try.f13 false true false false) := by
  refine returnsInHanded_of_change_sized (C := Try.checked) Try.own started (by kernel_rfl) Try.func13
    (ChangeSpec.witness6 (enc := enc) (C := Try.checked) false ⟨#[], #[.string ⟨#[]⟩, .int .u64 0, .int .i64 0], []⟩ 8 (by kernel_rfl) (by kernel_rfl) (by kernel_rfl) (by kernel_rfl)) ?_
  intro W base args ds gs before hval0 hW hcnd hsz0 _
  have hval : ∀ (j : Nat) t v, Try.f13.params[j]? = some t → args[j]? = some v → Value.okWide Try.prog W .any base t v := hval0
  have hsz : (DataW.weightsEach Try.prog (Try.f13.params.toList ++ Rows.natOneSpec.plain.varTypes Try.prog) (ds ++ gs)).all (· ≤ reachBytes) = true := hsz0
  clear hsz0
  have hW' := hW
  obtain ⟨p, q, hA0, hV, rfl, hfz, hnd⟩ := hW
  have hA : DataW.TrodAll enc Try.prog W 0 (fun _ => true) true Try.f13.params.toList args.toList ds p := hA0
  rw [Try.params13] at hA hval hsz
  obtain ⟨v0, vs0, d0, ds0, p0, q0, hargs, rfl, rfl, h0, r0⟩ := trodAll_cons hA
  obtain ⟨v1, vs1, d1, ds1, p1, q1, rfl, rfl, rfl, h1, r1⟩ := trodAll_cons r0
  obtain ⟨v2, vs2, d2, ds2, p2, q2, rfl, rfl, rfl, h2, r2⟩ := trodAll_cons r1
  obtain ⟨rfl, rfl, rfl⟩ := trodAll_nil r2
  obtain rfl : args = #[v0, v1, v2] := by cases args; simp_all
  obtain ⟨rfl, rfl⟩ := trodVars_none hV
  obtain ⟨a0, rfl, rfl, rfl, wa0⟩ := open_string Try.underlying22 (hval 0 22 v0 rfl rfl) h0
  have sz0 : a0.size ≤ 140737488351232 := by
    have h := sized_string hsz (j := 0) (t := 22) rfl rfl
    rw [Array.length_toList] at h; exact h
  obtain ⟨a1, rfl, rfl, rfl, wa1⟩ := open_int Try.underlying59 (hval 1 59 v1 rfl rfl) h1
  obtain ⟨a2, rfl, rfl, rfl, wa2⟩ := open_int Try.underlying3 (hval 2 3 v2 rfl rfl) h2
  clear hA0 hval0
  simp only [List.append_nil] at hW'
  refine (law_NatOne a0 sz0 a1 (u64_bd wa1) a2 (i64_bd wa2) W).mono fun e W' ⟨he, hg⟩ => ?_
  subst he
  exact ⟨_, rfl, post_of_below (pa := []) (pv := []) hW' (fun _ _ _ => (trodAll_cons_mk (shut_bool Try.underlying4 _) trodAll_mk0)) (fun _ _ => (trodAll_cons_mk (shut_string Try.underlying22 wa0) (trodAll_cons_mk (shut_int Try.underlying59 wa1) (trodAll_cons_mk (shut_int Try.underlying3 wa2) trodAll_mk0)))) (fun _ _ => rfl) rfl
    hg (ok_one (by kernel_rfl) rfl (okWide_bool_mk Try.underlying4 _))⟩

theorem natOne_holds : Rows.NatOneSaid :=
  OpenClaim.holds_of_wide 13 Try.f13 rfl rfl rfl rfl rfl rfl rfl ⟨rfl, rfl, rfl, rfl, rfl⟩ rfl rfl rfl rfl rfl (by kernel_rfl) Try.func13 (by kernel_rfl)
    (of_decide_eq_true (by kernel_rfl)) (by unfold Func.isWrapper; rw [if_neg (of_decide_eq_false (by kernel_rfl))]; exact ⟨rfl, rfl⟩)
    (fun os started H enc _ => natOne_lifted os started H enc)
#print axioms natOne_holds

end Go.Proofs.Ytfhkpkebiinglaa
