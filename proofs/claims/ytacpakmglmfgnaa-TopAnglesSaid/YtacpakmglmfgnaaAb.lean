/-
  All at base 2, up to ten turns.
-/
import Derived.Test.YtacpakmglmfgnaaAa
import Derived.Test.YtacpakmglmfgnaaCu
import Derived.Test.YtacpakmglmfgnaaLk
namespace Go.Proofs.Ytacpakmglmfgnaa
open Go.RowKit

/-- The angles of denominator M below X whose period is n, in lowest terms. -/
def Fl (M n X : Nat) : List (Nat × Nat) := ((List.range X).filter fun x => decide ((kindA (M / Nat.gcd x M) 2).2 = n)).map fun x => (x / Nat.gcd x M, M / Nat.gcd x M)
theorem Fl_succ (M n X : Nat) : Fl M n (X + 1) = Fl M n X ++ if (kindA (M / Nat.gcd X M) 2).2 = n then [(X / Nat.gcd X M, M / Nat.gcd X M)] else [] := by
  unfold Fl
  rw [List.range_succ, List.filter_append, List.map_append]
  congr 1
  by_cases h : (kindA (M / Nat.gcd X M) 2).2 = n <;> simp [h]
theorem Fl_len (M n X : Nat) : (Fl M n X).length ≤ X := by
  unfold Fl
  rw [List.length_map]
  exact Nat.le_trans (List.length_filter_le _ _) (by simp)
theorem Rp.below' {w0 w : World} {v : Value} (h : Rp w0 v [] w0) (hb : Below w0.heap.size w0 w) : Rp w0 v [] w := h.on hb
set_option maxHeartbeats 4000000 in
set_option maxRecDepth 20000 in
theorem all_of (HMUL : MulSays) (n : Nat) (hn0 : 0 < n) (hn : n ≤ 10) (w : World) :
    Calls Try.prog 10 #[.int .i64 2, .int .i64 (n : Nat)] w fun e w' => ∃ v, e = .returned (.tuple #[v, .int .i64 0]) ∧ Rp w v (Fl (2 ^ n - 1) n (2 ^ n - 1)) w' := by
  have HT := Lib.hid fun W => turns_yes 2 (by omega) (by omega) W
  rw [show ((2 : Nat) : Int) = 2 from rfl] at HT
  have HCO := Lib.hid fun W => count_of HMUL n hn0 hn W
  have HN4 := Lib.hid fun W => newint_p 4096 (by omega) W
  rw [show ((4096 : Nat) : Int) = 4096 from rfl] at HN4
  obtain ⟨hcb, hcp⟩ := csum_bd (n := n) (m := n) hn hn
  have hcp := hcp hn0
  have h1 : ¬ (n : Int) < 1 := by omega
  have h2 : ¬ (n : Int) > 1024 := by omega
  obtain ⟨M, hM⟩ : ∃ M, 2 ^ n = M + 1 := ⟨2 ^ n - 1, by have : 0 < 2 ^ n := Nat.pow_pos (by omega); omega⟩
  rw [show 2 ^ n - 1 = M by omega]
  have hM0 : 0 < M := by
    have : 2 ^ 1 ≤ 2 ^ n := Nat.pow_le_pow_right (by omega) (by omega)
    omega
  have HM := Lib.hid hM
  clear hM
  go_enter Try.func10, Try.ntmps10
  go_upto_region 3 with (first | (go_at_call 14; refine (HT.out _).mono ?_; rintro e w1 ⟨rfl, rfl⟩))
  go_upto_region 5 with (first
    | (go_at_call 20; refine (HCO.out _).mono ?_; rintro e w1 ⟨rfl, Z1, B1⟩; obtain ⟨n1, x1, I1, e1⟩ := Z1; obtain ⟨rfl, hx1⟩ := sgn_pos e1 hcp)
    | (go_at_call 22; refine (HN4.out _).mono ?_; rintro e w2 ⟨p2, rfl, I2, B2⟩; have I12 := I1.on B2 (Nat.le_refl _); obtain ⟨c, hc0, hc1⟩ : ∃ c : Int, ¬ 0 < c ∧ cmpV x1 4096 = .int .i64 c := (by rcases Nat.lt_or_eq_of_le (show x1 ≤ 4096 by omega) with h | h; exact ⟨-1, by omega, cmpV_lt h⟩; exact ⟨0, by omega, by rw [h]; exact cmpV_eq _⟩))
    | (go_at_call 21; refine (wCmp_any _ _ _ _ _ _ _ _ _ I12 I2).mono ?_; rintro e w3 ⟨n3, rfl, rfl⟩; rw [hc1]))
  have HB2 := Lib.hid (below_drewN (B1.on B2) n3)
  clear HCO HN4 HT I1 I2 I12 B1 B2 hc0 hc1 hx1 e1 hcp hcb
  generalize w2.drewN n3 = w4 at *
  have HPW := Lib.hid fun i (h : i ≤ n) => (show 2 ^ i ≤ 1024 from by
    have : 2 ^ i ≤ 2 ^ 10 := Nat.pow_le_pow_right (by omega) (by omega)
    simpa using this)
  have HPP := Lib.hid fun i => (show 0 < 2 ^ i from Nat.pow_pos (by omega))
  go_upto_region 7 with (fail)
  go_loop [6, 30] (fun vt vi => ∃ i t : Nat, vi = .int .i64 (i : Int) ∧ vt = .int .u64 (t : Int) ∧ i ≤ n ∧ Hid (t = 2 ^ i)) (fun _ vi => n - (intOf vi).toNat)
  case atStart => exact ⟨0, 1, rfl, rfl, Nat.zero_le _, rfl⟩
  case round =>
    obtain ⟨i, t, rfl, rfl, hi, HTI⟩ := hrel
    by_cases hin : i < n
    · have ht := HPW.out i hi
      rw [← HTI.out] at ht
      have ht2 : Hid (t * 2 = 2 ^ (i + 1)) := by show _ = _; rw [HTI.out, Nat.pow_succ]
      have htw : IntKind.u64.wrap ((t : Int) * 2) = ((t * 2 : Nat) : Int) := by rw [IntKind.wrap_u64]; omega
      go_wp2
      go_round
      case rel => exact ⟨i + 1, t * 2, by go_num, by first | rfl | go_num | (rw [htw]), hin, ht2⟩
      case measure => simp [intOf]; omega
    · have hie : i = n := by omega
      subst hie
      have ht := HPW.out i hi
      have hte : t = M + 1 := HTI.out.trans HM.out
      rw [← HTI.out] at ht
      subst hte
      clear HTI HPW HPP HM
      have hM1 : IntKind.u64.wrap ((M : Int) + 1 - 1) = M := by rw [IntKind.wrap_u64]; omega
      go_upto_region 13 with (fail)
      go_loopw [7, 40] (fun vl vx wr => ∃ X : Nat, X ≤ M ∧ vx = .int .u64 (X : Int) ∧ Hid (Rp w vl (Fl M i X) wr)) (fun _ vx _ => M - (intOf vx).toNat)
      case atStart => exact ⟨0, Nat.zero_le _, rfl, (Rp.nil w).below' HB2.out⟩
      case round =>
        obtain ⟨X, hX, rfl, HL⟩ := hrel
        have hlen := Fl_len M i X
        by_cases hXM : X < M
        · have HLO := Lib.hid fun W => lowest_any X M (by omega) (by omega) hM0 W
          have hFs := Fl_succ M i X
          have hgp : 0 < Nat.gcd X M := Nat.gcd_pos_of_pos_right _ hM0
          have hy0 : 0 < M / Nat.gcd X M := Nat.div_pos (Nat.le_of_dvd hM0 (Nat.gcd_dvd_right _ _)) hgp
          have hxl := Nat.div_le_self X (Nat.gcd X M)
          have hyl := Nat.div_le_self M (Nat.gcd X M)
          generalize X / Nat.gcd X M = p at *
          generalize M / Nat.gcd X M = q at *
          have HK := Lib.hid fun W => kind_any q 2 hy0 (by omega) (by omega) (by omega) W
          rw [show ((2 : Nat) : Int) = 2 from rfl] at HK
          have HR := Lib.hid fun W => ratioOf_any p q (by omega) (by omega) W
          unfold partV at HLO HR
          unfold ratV at HR
          generalize (kindA q 2).1 = P at *
          generalize (kindA q 2).2 = T at *
          clear hgp
          by_cases hT : T = i
          · subst hT
            rw [if_pos rfl] at hFs
            have HFS := Lib.hid hFs
            clear hFs
            go_wp2_with (first
              | (go_at_call 12; refine (HLO.out _).mono ?_; rintro e w5 ⟨rfl, B5⟩; have L5 := Lib.hid ((HL.out.on B5).on (alloc_below w5 (.cells #[.int .u64 (p : Nat), .int .u64 (q : Nat)] 44))))
              | (go_at_call 15; refine (HK.out _).mono ?_; rintro e w6 ⟨rfl, B6⟩; have L6 := Lib.hid (L5.out.on B6); have z0 := (B6.cell (p := ⟨w5.heap.size, 0, none⟩) (by simp)).trans (new0 w5 44 (.int .u64 (p : Nat)) (.int .u64 (q : Nat))); have z1 := (B6.cell (p := ⟨w5.heap.size, 1, none⟩) (by simp)).trans (new1 w5 44 (.int .u64 (p : Nat)) (.int .u64 (q : Nat))))
              | (go_at_call 17; refine (HR.out _).mono ?_; rintro e w7 ⟨rfl, B7⟩; have L7 := Lib.hid (L6.out.on B7))
              | (at_builtin; refine wpList_append_ratio rfl _ _ rfl w L7.out p q rfl rfl (by omega) ?_; intro v' w' hap'; have HAP := Lib.hid hap'; clear hap'))
            go_roundw
            case rel => exact ⟨X + 1, hXM, by go_num, by rw [HFS.out]; exact HAP.out⟩
            case measure => simp [intOf]; omega
          · rw [if_neg hT, List.append_nil] at hFs
            have hTi : ((T : Int) == i) = false := by rw [beq_eq_false_iff_ne]; omega
            have hTn : ¬ (T : Int) = i := by omega
            have HFS := Lib.hid hFs
            clear hFs
            go_wp2_with (first
              | (go_at_call 12; refine (HLO.out _).mono ?_; rintro e w5 ⟨rfl, B5⟩; have L5 := Lib.hid ((HL.out.on B5).on (alloc_below w5 (.cells #[.int .u64 (p : Nat), .int .u64 (q : Nat)] 44))))
              | (go_at_call 15; refine (HK.out _).mono ?_; rintro e w6 ⟨rfl, B6⟩; have L6 := Lib.hid (L5.out.on B6)))
            go_roundw
            case rel => exact ⟨X + 1, hXM, by go_num, by rw [HFS.out]; exact L6.out⟩
            case measure => simp [intOf]; omega
        · have hXe : X = M := by omega
          subst hXe
          go_wp2
          go_ret2
          exact ⟨_, rfl, HL.out⟩
end Go.Proofs.Ytacpakmglmfgnaa
