/-
  The walk of add: the sum of two rows of limbs.
-/
import Derived.Test.YtfhkpkebiinglaaAp
namespace Go.Proofs.Ytfhkpkebiinglaa
open Go.RowKit

set_option maxRecDepth 20000 in
theorem add_any (aa ab : Option Addr) (ca cb : Nat) (A B : List Nat) (hA : ∀ d ∈ A, d < 4294967296) (hB : ∀ d ∈ B, d < 4294967296) (ha : A.length ≤ 1000000) (hb : B.length ≤ 1000000) (w : World)
    (rA : RowAt w .u32 aa ca A) (rB : RowAt w .u32 ab cb B) :
    Calls Try.prog 74 #[.slice aa A.length ca, .slice ab B.length cb] w (GaveRow 91 .u32 (digs 4294967296 (dval 4294967296 A + dval 4294967296 B)) w) := by
  obtain ⟨i0, hi0, hz0, hz1, hz2⟩ := info_parts info91
  have RA := Lib.hid rA
  have RB := Lib.hid rB
  have HA := Lib.hid hA
  have HB := Lib.hid hB
  clear rA rB hA hB
  obtain ⟨M, hM⟩ : ∃ M, M = max A.length B.length := ⟨_, rfl⟩
  have hm1 : max (A.length : Int) (B.length : Int) = (M : Int) := by omega
  have hMle : M ≤ 1000000 := by omega
  have HM := Lib.hid hM
  clear hM
  go_enter Try.func74, Try.ntmps74
  go_wp2_with (first | (at_make; refine wpList_make_own _ rfl _ _ 77 rfl w.heap.size 91 i0 (.int .u32 0) 1 Try.underlying77 hi0 hz0 hz1 .i64 .i64 _ (M + 1) rfl rfl (by go_num) (by rw [hz2]; omega) (by unfold maxLen; omega) (Nat.le_refl _) ?_; intro w1 hown1 hgrow1))
  have hO : Ap w 91 .u32 (.slice (some ⟨w.heap.size, 0, none⟩) 0 (M + 1)) [] w1 := ⟨hown1, (Below.refl _ _).grown hgrow1 (Nat.le_refl _) (fun k h => by cases h)⟩
  have HO := Lib.hid hO
  clear hO hown1 hgrow1 hi0 hz0 hz1 hz2
  go_loopw [5, 6, 21] (fun vc vo vi wr => ∃ i c O, i ≤ M ∧ vi = .int .i64 ((i : Nat) : Int) ∧ vc = .int .u32 ((c : Nat) : Int) ∧ AddAt 4294967296 A B i c O ∧ Ap w 91 .u32 vo O wr) (fun _ _ vi _ => M - (intOf vi).toNat)
  case atStart => exact ⟨0, 0, [], Nat.zero_le _, rfl, rfl, AddAt.start _ A B, HO.out⟩
  case round =>
    obtain ⟨i, c, O, hi, rfl, rfl, hm, ho⟩ := hrel
    have hc := hm.carry
    have hlen := hm.len
    have HMA := Lib.hid hm
    have HW := Lib.hid ho
    clear hm ho
    by_cases hlt : i < M
    · have HST := Lib.hid (HMA.out.step (by omega) HA.out HB.out)
      have hx := getD_small HA.out (show 0 < 4294967296 by omega) i
      have hy := getD_small HB.out (show 0 < 4294967296 by omega) i
      have HAT := Lib.hid fun W r => at_any aa A.length ca A rfl i W r
      have HBT := Lib.hid fun W r => at_any ab B.length cb B rfl i W r
      have RA2 := Lib.hid (RA.out.below HW.out.below (Nat.le_refl _))
      have RB2 := Lib.hid (RB.out.below HW.out.below (Nat.le_refl _))
      generalize A.getD i 0 = x at *
      generalize B.getD i 0 = y at *
      go_wp2_with (first | (go_at_call 79; with_reducible refine (HAT.out _ RA2.out).mono ?_; rintro e w' ⟨rfl, rfl⟩) | (go_at_call 79; with_reducible refine (HBT.out _ RB2.out).mono ?_; rintro e w' ⟨rfl, rfl⟩) | (go_at_call 85; refine (Add32_any x y c hx hy (by omega) _).mono ?_; rintro e w' ⟨rfl, rfl⟩) | (at_builtin; refine wpList_append_one rfl _ _ 77 rfl Try.underlying77 info91 rfl (by omega) w HW.out ((x + y + c) % 4294967296) _ rfl rfl (by omega) (by omega) ?_; intro v1 w2 hap1))
      go_roundw
      case rel => exact ⟨i + 1, _, _, by omega, by go_num, rfl, HST.out, hap1⟩
      case measure => simp [intOf]; omega
    · have hie : i = M := by omega
      subst hie
      have HL := Lib.hid HMA.out
      have hl0 := HM.out
      rw [hl0] at HL
      obtain ⟨l1, l2, l3⟩ := AddAt.leave (by omega) HL.out
      have L1 := Lib.hid l1
      have L2 := Lib.hid l2
      clear l1 l2 l3 hl0
      go_wp2_with (first | (at_builtin; refine wpList_append_one rfl _ _ 77 rfl Try.underlying77 info91 rfl (by omega) w HW.out c _ rfl rfl rfl (by omega) ?_; intro v1 w2 hap1; obtain ⟨ao, n, cap, HN, hv, hr, hg⟩ := hap1.done (by omega) L1.out; subst hv; have HC := Lib.hid (cut_n ao n cap (O ++ [c]) HN.out L1.out w2 hr); rw [L2.out] at HC hg; have HG := Lib.hid hg; clear hg hr hap1) | (go_at_call 83; refine HC.out.mono ?_; rintro e w' ⟨rfl, rfl⟩))
      go_ret
      exact HG.out
end Go.Proofs.Ytfhkpkebiinglaa
