/-
  moebius.
-/
import Derived.Test.YtacpakmglmfgnaaTj
namespace Go.Proofs.Ytacpakmglmfgnaa
open Go.RowKit Nat

def mobL : List (Nat × Nat) → Int
  | [] => 1
  | x :: r => if 1 < x.2 then 0 else -mobL r
theorem mobL_cons (x : Nat × Nat) (r : List (Nat × Nat)) : mobL (x :: r) = if 1 < x.2 then 0 else -mobL r := rfl
def mob (n : Nat) : Int := mobL (facs n)
theorem mobL_bd : ∀ L, -1 ≤ mobL L ∧ mobL L ≤ 1 := by
  intro L
  induction L with
  | nil => exact ⟨by decide, by decide⟩
  | cons x r ih => unfold mobL; split <;> omega
set_option maxHeartbeats 1000000 in
set_option maxRecDepth 20000 in
theorem moebius_any (n : Nat) (hn : 0 < n) (hn2 : n ≤ 3000) (w : World) :
    Calls Try.prog 33 #[.int .i64 (n : Nat)] w fun e w' => e = .returned (.int .i64 (mob n)) ∧ Below w.heap.size w w' := by
  have HF := Lib.hid fun W => factors_any n hn hn2 W
  unfold mob
  go_enter Try.func33, Try.ntmps33
  go_wp2_with (first | (go_at_call 44; refine (HF.out _).mono ?_; rintro e w1 ⟨ao, cap, rfl, hr, hl, B1⟩; have HR := Lib.hid hr; clear hr))
  go_loopw [3, 10] (fun vs vi wr => ∃ (i : Nat) (s : Int), vs = .int .i64 s ∧ vi = .int .i64 (i : Int) ∧ i ≤ (facs n).length ∧ (s = 1 ∨ s = -1) ∧ Hid (mobL (facs n) = s * mobL ((facs n).drop i)) ∧ Hid (Below w1.heap.size w1 wr)) (fun _ vi _ => (facs n).length - (intOf vi).toNat)
  case atStart => exact ⟨0, 1, rfl, rfl, Nat.zero_le _, .inl rfl, by show _ = _; rw [List.drop_zero, Int.one_mul], Below.refl _ _⟩
  case round =>
    obtain ⟨i, s, rfl, rfl, hil, hs, HD, HB⟩ := hrel
    by_cases hi : i < (facs n).length
    · obtain ⟨b, rfl, hb, hc1, hc2⟩ := ((HR.out.below HB.out).cell i hi)
      have hcap := HR.out.le
      have hcm := HR.out.max
      unfold maxLen at hcm
      have hD := HD.out
      rw [List.drop_eq_getElem_cons hi, mobL_cons] at hD
      have HD2 := Lib.hid hD
      clear hD HD
      generalize (facs n)[i].1 = p at *
      generalize (facs n)[i].2 = c at *
      rw [Nat.mul_comm] at hc1 hc2
      have BW := Lib.hid (HB.out.on (alloc_below wr (.cells #[.int .u64 (p : Nat), .int .i64 (c : Nat)] 89)))
      by_cases hc : 1 < c
      · have hcz : (1 : Int) < c := by omega
        have HE : Hid (mobL (facs n) = 0) := by
          have := HD2.out
          rw [if_pos hc, Int.mul_zero] at this
          exact this
        clear HD2 hc
        go_wp2
        go_ret
        exact ⟨by rw [HE.out]; rfl, B1.on BW.out⟩
      · have hcz : ¬ (1 : Int) < c := by omega
        have HE : Hid (mobL (facs n) = -s * mobL ((facs n).drop (i + 1))) := by
          have := HD2.out
          rw [if_neg hc] at this
          show _ = _
          rw [this, Int.mul_neg, Int.neg_mul]
        have hsw : IntKind.i64.wrap (-s) = -s := IntWalk.i64_in _ (by omega)
        clear HD2 hc
        go_wp2
        go_roundw
        case rel => exact ⟨i + 1, -s, by first | rfl | simp [hsw], by go_num, by omega, by omega, HE, BW.out⟩
        case measure => simp [intOf]; omega
    · have hie : i = (facs n).length := by omega
      subst hie
      have hD := HD.out
      rw [List.drop_length] at hD
      have HD2 : Hid (mobL (facs n) = s) := by show _ = _; rw [hD]; show s * 1 = s; omega
      clear hD HD
      go_wp2
      go_ret
      exact ⟨by rw [HD2.out]; rfl, B1.on HB.out⟩
end Go.Proofs.Ytacpakmglmfgnaa
