/-
  The walk of right: a row of limbs shifted down.
-/
import Derived.Test.YtfhkpkebiinglaaLeft
namespace Go.Proofs.Ytfhkpkebiinglaa
open Go.RowKit

theorem right_or (x y : Nat) (hx : x < 4294967296) (hy : y < 4294967296) : bits .or .u64 (x : Int) ((y : Int) * 4294967296) = ((x + y * 4294967296 : Nat) : Int) := by
  have e : ((y : Int) * 4294967296) = ((y * 4294967296 : Nat) : Int) := by omega
  have := or_low x y 32 hx
  rw [e, bits_or64 _ _ (by omega) (by omega)]
  congr 1
theorem RightAt.start (β : Nat) (A : List Nat) (k s : Nat) : RightAt β A k s k [] := ⟨Nat.le_refl _, by simp, fun j hj => absurd hj (Nat.not_lt_zero _)⟩

theorem at_z (ao : Option Addr) (n cap : Nat) (L : List Nat) (hn : L.length = n) (i : Nat) (z : Int) (hz : z = (i : Int)) (w : World) (h : RowAt w .u32 ao cap L) :
    Calls Try.prog 79 #[.slice ao n cap, .int .i64 z] w fun e w' => e = .returned (.int .u32 (L.getD i 0 : Nat)) ∧ w = w' := by
  subst hz; exact at_any ao n cap L hn i w h
set_option maxRecDepth 20000 in
theorem right_any (aa : Option Addr) (n0 ca : Nat) (A : List Nat) (hn0 : A.length = n0) (n : Nat) (hA : ∀ d ∈ A, d < 4294967296) (ha : A.length ≤ 1000000) (hn : n ≤ 1000000) (w : World) (rA : RowAt w .u32 aa ca A) :
    Calls Try.prog 68 #[.slice aa n0 ca, .int .i64 (n : Int)] w (GaveRow 91 .u32 (digs 4294967296 (dval 4294967296 A / 2 ^ n)) w) := by
  subst hn0
  have RA := Lib.hid rA
  have HA := Lib.hid hA
  clear rA hA
  obtain ⟨s, hs⟩ : ∃ s, s = n % 32 := ⟨_, rfl⟩
  have hs32 : s < 32 := by omega
  obtain ⟨k, hkk⟩ : ∃ k, k = n / 32 := ⟨_, rfl⟩
  have e1 : (n : Int) / 32 = (k : Int) := by omega
  have e2 : (n : Int) % 32 = (s : Int) := by omega
  have h2p : Hid (0 < 2 ^ s ∧ 4294967296 = 2 ^ s * 2 ^ (32 - s)) := by
    refine ⟨Nat.two_pow_pos _, ?_⟩
    rw [← Nat.pow_add, show s + (32 - s) = 32 by omega]
  have HP : Hid (2 ^ n = 4294967296 ^ k * 2 ^ s) := by
    show _ = _
    have : (4294967296 : Nat) = 2 ^ 32 := rfl
    rw [this, ← Nat.pow_mul, ← Nat.pow_add]; congr 1; omega
  have hkb : k ≤ 31250 := by omega
  clear hs hkk
  go_enter Try.func68, Try.ntmps68
  go_wp2
  go_loopw [5, 6] (fun vo vi wr => ∃ i O, i ≤ max k A.length ∧ vi = .int .i64 ((i : Nat) : Int) ∧ RightAt 4294967296 A k (2 ^ s) i O ∧ (∀ d ∈ O, d < 4294967296) ∧ Ap w 91 .u32 vo O wr) (fun _ vi _ => A.length - (intOf vi).toNat)
  case atStart => exact ⟨k, [], by omega, rfl, RightAt.start _ A k _, (fun d h => by cases h), Ap.nil _ _ _⟩
  case round =>
    obtain ⟨i, O, hi, rfl, hm, hol, ho⟩ := hrel
    have hik := hm.from_
    have hlen : O.length ≤ 10000000 := by rw [hm.len]; omega
    have HMA := Lib.hid hm
    have HW := Lib.hid ho
    have HOL := Lib.hid hol
    have HLN := Lib.hid hlen
    clear hm ho hlen hol
    by_cases hlt : i < A.length
    · have HAT := Lib.hid fun W r => at_z aa A.length ca A rfl (i + 1) ((i : Int) + 1) (by omega) W r
      have HST := Lib.hid (HMA.out.step h2p.out.2 HA.out)
      have RA2 := RA.out.below HW.out.below (Nat.le_refl _)
      have hy := getD_small HA.out (show 0 < 4294967296 by omega) (i + 1)
      obtain ⟨ba, rfl, hba, hca⟩ := RA.out.get HW.out.below i hlt
      have hx := HA.out _ (List.getElem_mem hlt)
      rw [getD_lt hlt] at HST
      generalize A[i] = x at *
      generalize A.getD (i + 1) 0 = y at *
      have hba2 : ba < wr.heap.size := Nat.lt_of_lt_of_le hba HW.out.below.size
      have hor := right_or x y hx hy
      have ht : x + y * 4294967296 < 18446744073709551616 := by omega
      generalize x + y * 4294967296 = t at *
      have h0i : (0 : Int) ≤ (i : Int) := by omega
      have h0j : (i : Int) < (A.length : Int) := by omega
      go_wp2
      have hwi : IntKind.i64.wrap ((i : Int) + 1) = (i : Int) + 1 := by rw [IntKind.wrap_i64]; omega
      have hwx : IntKind.u64.wrap (x : Int) = (x : Int) := by rw [IntKind.wrap_u64]; omega
      have hwy : IntKind.u64.wrap (y : Int) = (y : Int) := by rw [IntKind.wrap_u64]; omega
      have hwz : IntKind.u64.wrap ((y : Int) * 4294967296) = (y : Int) * 4294967296 := by rw [IntKind.wrap_u64]; omega
      go_region_held3 (fun W => RowAt W .u32 (some ⟨ba, 0, none⟩) ca A ∧ W.cell? ⟨ba, i, none⟩ = some (.int .u32 (x : Int))) (exact ⟨by first | assumption | exact RowAt.drew (by assumption), by assumption⟩) (first | (go_at_call 79; refine (HAT.out _ (by first | assumption | exact RowAt.drew (by assumption))).mono ?_; rintro e w' ⟨rfl, rfl⟩))
      clear hwi hwx hwy hwz
      rw [Nat.mul_comm] at HP
      go_wp2_with (first | (at_builtin; refine wpList_append_one rfl _ _ 77 rfl Try.underlying77 info91 rfl (by omega) w HW.out.drew (t / 2 ^ s % 4294967296) _ rfl rfl (by go_num) HLN.out ?_; intro v1 w2 hap1))
      go_roundw
      case rel => exact ⟨i + 1, _, by omega, by go_num, HST.out, snoc_lt HOL.out (Nat.mod_lt _ (by omega)), hap1⟩
      case measure => simp [intOf]; omega
    · have hie : i = max k A.length := by omega
      have HM2 := Lib.hid HMA.out
      rw [hie] at HM2
      have hv := HM2.out.leave (by omega) HA.out
      rw [← HP.out] at hv
      have L2 := Lib.hid hv
      obtain ⟨ao, m, cap, HN, hv2, hr, hg⟩ := HW.out.done (B := 4294967296) (by omega) HOL.out
      subst hv2
      have HC := Lib.hid (cut_n ao m cap O HN.out HOL.out wr hr)
      rw [L2.out] at HC hg
      have HG := Lib.hid hg
      clear hg hr hv hie HW
      go_wp2_with (first | (go_at_call 83; refine HC.out.mono ?_; rintro e w' ⟨rfl, rfl⟩))
      go_ret
      exact HG.out
end Go.Proofs.Ytfhkpkebiinglaa
