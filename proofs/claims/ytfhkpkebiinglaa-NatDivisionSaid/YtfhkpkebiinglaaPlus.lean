/-
  The walk of the reference's plus.
-/
import Derived.Test.YtfhkpkebiinglaaRef
namespace Go.Proofs.Ytfhkpkebiinglaa
open Go.RowKit

theorem AddAt.leave0 {β : Nat} {A B : List Nat} {i : Nat} {O : List Nat} (h : AddAt β A B i 0 O) (ha : A.length ≤ i) (hb : B.length ≤ i) : dval β O = dval β A + dval β B := by
  have := h.val
  rw [List.take_of_length_le ha, List.take_of_length_le hb] at this
  simpa using this
/-- A row kept through a world that turned nothing old. -/
theorem HRow {w w' : World} {k : IntKind} {ao : Option Addr} {cap : Nat} {L : List Nat} (h : RowAt w k ao cap L) (hb : Below w.heap.size w w') : RowAt w' k ao cap L := h.below hb (Nat.le_refl _)

set_option maxRecDepth 20000 in
set_option maxHeartbeats 400000 in
theorem plus_any (a b : ByteArray) (ha : a.size ≤ 200000) (hb : b.size ≤ 200000) (w : World) :
    Calls Try.prog 66 #[.string a, .string b] w fun e w' => e = .returned (.string (enc (bval a + bval b))) ∧ Below w.heap.size w w' := by
  have HA := Lib.hid fun W => digits_any a (by omega) W
  have HB := Lib.hid fun W => digits_any b (by omega) W
  have HXL := Lib.hid (bytesR_lt a)
  have HYL := Lib.hid (bytesR_lt b)
  have hX : (bytesR a).length = a.size := bytesR_len a
  have hY : (bytesR b).length = b.size := bytesR_len b
  have HV : Hid (bval a + bval b = dval 256 (bytesR a) + dval 256 (bytesR b)) := rfl
  obtain ⟨M, hM⟩ : ∃ M, M = max a.size b.size := ⟨_, rfl⟩
  have hMa : a.size ≤ M := by omega
  have hMb : b.size ≤ M := by omega
  have hMM : M = a.size ∨ M = b.size := by omega
  have HMM := Lib.hid hMM
  rw [HV.out]
  have HX := Lib.hid hX
  have HY := Lib.hid hY
  clear hX hY hM hMM HV
  generalize bytesR a = X at *
  generalize bytesR b = Y at *
  generalize a.size = n at *
  generalize b.size = m at *
  have hM2 : M ≤ 200000 := by have := HMM.out; omega
  go_enter Try.func66, Try.ntmps66
  go_wp2_with (first | (go_at_call 71; with_reducible refine (HA.out _).mono ?_; rintro e w2 ⟨aa, na, ca, rfl, EA, RA, B2⟩; obtain rfl : n = na := by rw [← HX.out, EA.out]) | (go_at_call 71; with_reducible refine (HB.out _).mono ?_; rintro e w3 ⟨ab, nb, cb, rfl, EB, RB, B3⟩; obtain rfl : m = nb := by rw [← HY.out, EB.out]))
  have RA3 := Lib.hid (HRow RA.out B3)
  have HBL := Lib.hid (B2.on B3)
  clear B2 B3 RA EA EB
  go_loopw [7, 8, 9] (fun vo vc vi wr => ∃ i c O, vi = .int .i64 ((i : Nat) : Int) ∧ vc = .int .i64 ((c : Nat) : Int) ∧ c ≤ 1 ∧ (i ≤ M ∨ i = M + 1 ∧ c = 0) ∧ Hid (AddAt 256 X Y i c O) ∧ Hid (Ap w3 3 .i64 vo O wr)) (fun _ _ vi _ => M + 1 - (intOf vi).toNat)
  case atStart => exact ⟨0, 0, [], rfl, rfl, by omega, .inl (Nat.zero_le _), AddAt.start 256 X Y, Ap.nil _ _ _⟩
  case round =>
    obtain ⟨i, c, O, rfl, rfl, hc, hi, HAD, HW⟩ := hrel
    have RX := Lib.hid (HRow RA3.out HW.out.below)
    have RY := Lib.hid (HRow RB.out HW.out.below)
    have hlen : O.length ≤ 10000000 := by rw [HAD.out.len]; omega
    have HLN := Lib.hid hlen
    clear hlen
    by_cases hgo : i < n ∨ (¬ i < n ∧ i < m) ∨ (¬ i < n ∧ ¬ i < m ∧ 0 < c)
    · have HST := Lib.hid (HAD.out.step (by omega) HXL.out HYL.out)
      have hx := getD_small HXL.out (show 0 < 256 by omega) i
      have hy := getD_small HYL.out (show 0 < 256 by omega) i
      have HAT := Lib.hid fun W r => rat_any aa n ca X HX.out i W r
      have HBT := Lib.hid fun W r => rat_any ab m cb Y HY.out i W r
      have HI : Hid (i + 1 ≤ M ∨ i + 1 = M + 1 ∧ (X.getD i 0 + Y.getD i 0 + c) / 256 = 0) := by
        by_cases hlt : i < M
        · exact .inl hlt
        · right
          have h1 : X.getD i 0 = 0 := by have := HX.out; simp [List.getD, show X.length ≤ i by omega]
          have h2 : Y.getD i 0 = 0 := by have := HY.out; simp [List.getD, show Y.length ≤ i by omega]
          have h3 := HMM.out
          refine ⟨by omega, ?_⟩
          rw [h1, h2]; omega
      have hiM : i ≤ M := by have := HMM.out; omega
      generalize X.getD i 0 = x at *
      generalize Y.getD i 0 = y at *
      clear hi
      rcases hgo with h1 | ⟨h1, h2⟩ | ⟨h1, h2, h3⟩
      all_goals
        go_wp2_with (first | (go_at_call 72; with_reducible refine (HAT.out _ RX.out).mono ?_; rintro e w' ⟨rfl, rfl⟩) | (go_at_call 72; with_reducible refine (HBT.out _ RY.out).mono ?_; rintro e w' ⟨rfl, rfl⟩) | (at_builtin; refine wpList_append_one rfl _ _ 84 rfl Try.underlying84 info3 rfl (by omega) w3 HW.out ((x + y + c) % 256) _ rfl rfl (by omega) HLN.out ?_; intro v1 w2 hap1))
        go_roundw
        case rel => exact ⟨i + 1, _, _, by go_num, by congr 1; omega, by omega, HI.out, HST.out, hap1⟩
        case measure => simp [intOf]; omega
    · have h1 : ¬ i < n := by omega
      have h2 : ¬ i < m := by omega
      have h3 : c = 0 := by omega
      subst h3
      have HS := Lib.hid (HAD.out.leave0 (by rw [HX.out]; omega) (by rw [HY.out]; omega))
      obtain ⟨ao, co, hv, hr⟩ := own_slice HW.out.own
      subst hv
      have hol : O.length ≤ 1000000 := by rw [HAD.out.len]; omega
      have hmx := hr.max
      have hle := hr.le
      unfold maxLen at hmx
      have HMD := Lib.hid (made_any ao O.length co O rfl HAD.out.lt hol wr hr)
      rw [HS.out] at HMD
      clear hr hgo hi
      go_wp2_with (go_at_call 67; refine HMD.out.mono ?_; rintro e w5 ⟨rfl, B5⟩)
      go_ret
      exact ⟨rfl, (HBL.out.on HW.out.below).on B5⟩
end Go.Proofs.Ytfhkpkebiinglaa
