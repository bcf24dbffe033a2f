/- 2.3 to 2.5 at the bound's edge: the greatest number of 16384 bytes and the powers of two beside it answer as the document has it, and so do the calls that each statement asks besides. Conditions: none. -/
import Derived.Test.YtfhkpkebiinglaaLong
namespace Go.Proofs.Ytfhkpkebiinglaa
open Go.ChangeShapes Go.ChangeMaps Go.WideShapes Go.ChangeAt Go.RowKit Go.Joins
set_option linter.unusedVariables false

/-- The bytes written so far. -/
def lg (K i : Nat) : List Nat := List.replicate i 255 ++ List.replicate (K - i) 0
theorem lg_len (K i : Nat) (h : i ≤ K) : (lg K i).length = K := by simp [lg]; omega
theorem lg_step (K i : Nat) (h : i < K) : (lg K i).set i 255 = lg K (i + 1) := by
  unfold lg
  rw [show K - i = (K - (i + 1)) + 1 by omega, List.replicate_succ, List.set_append_right _ _ (by simp), List.replicate_succ' (n := i)]
  simp
set_option maxRecDepth 100000 in
set_option maxHeartbeats 1000000 in
theorem long_walk (A X : ByteArray) (K : Nat) (hK1 : K ≤ 16384) (hK2 : 16384 ≤ K) (HA : Hid (A = full K)) (HC : Hid (LongCalls A X)) (hA : A.size = 16384) (w : World) :
    Calls Try.prog 18 #[] w fun e w' => e = .returned (.bool true) ∧ Below w.heap.size w w' := by
  have H1 := Lib.hid HC.out.add
  have H2 := Lib.hid HC.out.sum
  have H3 := Lib.hid HC.out.sh1
  have H4 := Lib.hid HC.out.sh2
  have H5 := Lib.hid HC.out.pw1
  have H6 := Lib.hid HC.out.pw2
  have H7 := Lib.hid HC.out.mu1
  have H8 := Lib.hid HC.out.mu2
  have H9 := Lib.hid HC.out.len
  have H10 := Lib.hid HC.out.ck1
  have H11 := Lib.hid (HC.out.ck2 (A ++ ⟨#[0]⟩) (by rw [ByteArray.size_append]; rfl))
  have hA6 : A.size ≤ 16384 := by omega
  have HAS := Lib.hid hA
  clear HC hA
  go_enter Try.func18, Try.ntmps18
  go_wp2_with (first | (at_make; refine wpList_make_ap rfl _ _ 75 rfl Try.underlying75 info5 (by omega) w (Below.refl _ _) 16384 16384 _ _ .i64 .i64 rfl rfl rfl rfl (by omega) (by omega) ?_; intro w7 hap7 hs7 hb7; have HAP := Lib.hid hap7; clear hap7 hs7 hb7))
  have HO : Hid (Own w 5 .u8 w.heap.size (lg K 0) w7) := by
    have e : K = 16384 := by omega
    have h := Own.of_ap HAP.out (by rw [List.length_replicate])
    have e2 : lg K 0 = List.replicate 16384 0 := by
      unfold lg
      rw [e]
      rfl
    rw [e2]
    exact h
  clear HAP
  go_loopw [2] (fun vi wr => ∃ i : Nat, i ≤ 16384 ∧ vi = .int .i64 (i : Int) ∧ Hid (Own w 5 .u8 w.heap.size (lg K i) wr)) (fun vi _ => 16384 - (intOf vi).toNat)
  case atStart => exact ⟨0, Nat.zero_le _, rfl, HO⟩
  case round =>
    obtain ⟨i, hi, rfl, HW⟩ := hrel
    clear HO
    by_cases hlt : i < 16384
    · have hl := lg_len K i (by omega)
      have hcell := HW.out.cell i (by rw [hl]; omega)
      have hfz := HW.out.frozen i
      have HSTO := Lib.hid (HW.out.store i 255)
      rw [lg_step K i (by omega)] at HSTO
      generalize (lg K i)[i]'(by rw [hl]; omega) = o at hcell
      have hiz : (i : Int) < 16384 := by omega
      clear hl H1 H2 H3 H4 H5 H6 H7 H8 H9 H10 H11
      go_wp2
      go_roundw
      case rel => exact ⟨i + 1, by omega, by go_num, HSTO⟩
      case measure => simp [intOf]; omega
    · have hie : i = 16384 := by omega
      have HCV : Hid ((convert 75 22 (.slice (some ⟨w.heap.size, 0, none⟩) 16384 16384)).run Try.prog wr = .ok (.string A) wr) := by
        show _ = _
        rw [HA.out]
        unfold full
        refine run_convert_bytes_arg wr 75 5 Try.underlying75 Try.underlying5 w.heap.size 0 16384 16384 _ (by rw [List.length_map, List.length_replicate]; omega) ?_ 22 Try.underlying22
        intro j hj
        have hl := lg_len K i (by omega)
        have hc := HW.out.cell j (by rw [hl]; omega)
        rw [Nat.zero_add, hc]
        have hik : K - i = 0 := by omega
        simp only [lg, hik, List.replicate_zero, List.append_nil, List.getElem_replicate, List.getD_eq_getElem?_getD, List.getElem?_map]
        rw [List.getElem?_replicate_of_lt (by omega)]
        rfl
      have HB := Lib.hid HW.out.below
      obtain ⟨Z, hZ⟩ : ∃ Z : Int, Z = (i : Int) := ⟨_, rfl⟩
      have hiz : ¬ (i : Int) < 16384 := by omega
      clear HW hlt hie hi hZ
      go_wp2_with (first | (rw [HCV.out]) | (go_at_call 32; with_reducible refine (H1.out.call _).mono ?_; rintro e' w1 ⟨rfl, B1⟩) | (go_at_call 34; refine (H2.out _).mono ?_; rintro e' w2 ⟨rfl, B2⟩) | (go_at_call 28; with_reducible refine (H3.out.call _).mono ?_; rintro e' w3 ⟨rfl, B3⟩) | (go_at_call 28; with_reducible refine (H4.out.call _).mono ?_; rintro e' w4 ⟨rfl, B4⟩) | (go_at_call 55; with_reducible refine (H5.out.call _).mono ?_; rintro e' w5 ⟨rfl, B5⟩) | (go_at_call 55; with_reducible refine (H6.out.call _).mono ?_; rintro e' w6 ⟨rfl, B6⟩) | (go_at_call 20; with_reducible refine (H7.out.call _).mono ?_; rintro e' w7 ⟨rfl, B7⟩) | (go_at_call 20; with_reducible refine (H8.out.call _).mono ?_; rintro e' w8 ⟨rfl, B8⟩) | (go_at_call 49; with_reducible refine (H9.out.call _).mono ?_; rintro e' w9 ⟨rfl, B9⟩) | (go_at_call 46; with_reducible refine (H10.out.call _).mono ?_; rintro e' wA ⟨rfl, BA⟩) | (go_at_call 46; with_reducible refine (H11.out.call _).mono ?_; rintro e' wB ⟨rfl, BB⟩) | (go_at_call 19; refine (awake_any _).mono ?_; rintro e wz ⟨rfl, BZ⟩))
      go_ret
      exact ⟨rfl, by repeat (first | assumption | exact HB.out | refine Below.on ?_ (by assumption))⟩
set_option maxRecDepth 100000 in
theorem law_NatLong (w : World) : Calls Try.prog 18 #[] w fun e w' => e = .returned (.bool true) ∧ Below w.heap.size w w' := by
  obtain ⟨K, hK⟩ : ∃ K, K = 16384 := ⟨_, rfl⟩
  obtain ⟨n, hn⟩ : ∃ n, n = 131071 := ⟨_, rfl⟩
  exact long_walk (full K) (enc (2 ^ n)) K (by omega) (by omega) rfl (long_calls K n hK hn) (by rw [full_size, hK]) w

set_option maxRecDepth 100000 in
theorem natLong_lifted (os : Os) (started : os.Started) (H : Type) (enc : TypeId × Value → H) :
    ReturnsInHanded {} Try.checked os 18 .any (Rows.natLongSpec.pre6 enc Try.prog Try.f18 Rows.natLongRow.domain false) (Rows.natLongSpec.post enc Try.prog Try.f18 false true false false) := by
  refine returnsInHanded_of_change_sized (C := Try.checked) Try.own started (by kernel_rfl) Try.func18
    (ChangeSpec.witness6 (enc := enc) (C := Try.checked) false ⟨#[], #[], []⟩ 8 (by kernel_rfl) (by kernel_rfl) (by kernel_rfl) (by kernel_rfl)) ?_
  intro W base args ds gs before hval0 hW hcnd hsz0 _
  have hval : ∀ (j : Nat) t v, Try.f18.params[j]? = some t → args[j]? = some v → Value.okWide Try.prog W .any base t v := hval0
  have hsz : (DataW.weightsEach Try.prog (Try.f18.params.toList ++ Rows.natLongSpec.plain.varTypes Try.prog) (ds ++ gs)).all (· ≤ reachBytes) = true := hsz0
  clear hsz0
  have hW' := hW
  obtain ⟨p, q, hA0, hV, rfl, hfz, hnd⟩ := hW
  have hA : DataW.TrodAll enc Try.prog W 0 (fun _ => true) true Try.f18.params.toList args.toList ds p := hA0
  rw [Try.params18] at hA hval hsz
  obtain ⟨hargs, rfl, rfl⟩ := trodAll_nil hA
  obtain rfl : args = #[] := by cases args; simp_all
  obtain ⟨rfl, rfl⟩ := trodVars_none hV
  clear hA0 hval0
  simp only [List.append_nil] at hW'
  refine (law_NatLong  W).mono fun e W' ⟨he, hg⟩ => ?_
  subst he
  exact ⟨_, rfl, post_of_below (pa := []) (pv := []) hW' (fun _ _ _ => (trodAll_cons_mk (shut_bool Try.underlying4 _) trodAll_mk0)) (fun _ _ => trodAll_mk0) (fun _ _ => rfl) rfl
    hg (ok_one (by kernel_rfl) rfl (okWide_bool_mk Try.underlying4 _))⟩

theorem natLong_holds : Rows.NatLongSaid :=
  OpenClaim.holds_of_wide 18 Try.f18 rfl rfl rfl rfl rfl rfl rfl ⟨rfl, rfl, rfl, rfl, rfl⟩ rfl rfl rfl rfl rfl (by kernel_rfl) Try.func18 (by kernel_rfl)
    (of_decide_eq_true (by kernel_rfl)) (by unfold Func.isWrapper; rw [if_neg (of_decide_eq_false (by kernel_rfl))]; exact ⟨rfl, rfl⟩)
    (fun os started H enc _ => natLong_lifted os started H enc)
#print axioms natLong_holds

end Go.Proofs.Ytfhkpkebiinglaa
