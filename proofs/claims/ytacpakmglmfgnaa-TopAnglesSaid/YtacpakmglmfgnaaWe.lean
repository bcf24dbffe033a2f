/-
  Wide's whole numbers below 2^32: short, over, common, GCD.
-/
import Derived.Test.YtacpakmglmfgnaaWd
namespace Go.Proofs.Ytacpakmglmfgnaa
open Go.RowKit

theorem or_zero64 (x : Nat) (h : x < 4294967296) : bits .or .u64 0 (x : Int) = (x : Int) := by
  have := bits_or64 0 x (by omega) (by omega)
  rw [Nat.zero_or] at this
  exact this
set_option maxRecDepth 20000 in
theorem short_any (x y A B : Nat) (u : Value) (hx0 : 0 < x) (hy0 : 0 < y) (hy : y < 4294967296) (w : World) (hu : Dig A B w u x) (hB : B ≤ w.heap.size) :
    Calls Try.prog 63 #[u, .int .u32 (y : Nat)] w fun e w' => ∃ v, e = .returned (.tuple #[v, .int .u32 (x % y : Nat)]) ∧ Below w.heap.size w w' := by
  obtain ⟨i0, hi0, hz0, hz1, hz2⟩ := info_parts info91
  rcases hu with ⟨rfl, ao, cap, rfl, hc⟩ | ⟨_, hx, b, cap, rfl, hc1, hc, hA, hb, hcell⟩
  · omega
  unfold maxLen at hc
  have hor := or_zero64 x hx
  have h1 : ((y : Int) == 0) = false := by rw [beq_eq_false_iff_ne]; omega
  have h2 : ¬ (y : Int) = 0 := by omega
  obtain ⟨q, hq⟩ : ∃ q, q = x / y := ⟨_, rfl⟩
  obtain ⟨r, hr⟩ : ∃ r, r = x % y := ⟨_, rfl⟩
  have hql : q < 4294967296 := by rw [hq]; exact Nat.lt_of_le_of_lt (Nat.div_le_self _ _) hx
  have hrl : r < 4294967296 := by rw [hr]; exact Nat.lt_trans (Nat.mod_lt _ hy0) hy
  have g1 : (x : Int) / y = q := by rw [hq]; rfl
  have g2 : (x : Int) % y = r := by rw [hr]; rfl
  have g3 : IntKind.u64.wrap (q : Int) = q := by rw [IntKind.wrap_u64]; omega
  have g4 : (q : Int) % 4294967296 = q := by omega
  have g5 : (r : Int) % 4294967296 = r := by omega
  rw [← hr]
  clear hq hr
  go_enter Try.func63, Try.ntmps63
  go_wp2_with (first | (at_make; refine wpList_make_full _ rfl _ _ 69 rfl w.heap.size 84 i0 (.int .u32 0) 1 Try.underlying69 hi0 hz0 hz1 .i64 .i64 _ _ 1 rfl rfl (by go_num) (by go_num) (by rw [hz2]; omega) (by unfold maxLen; omega) (Nat.le_refl _) ?_; intro w1 hown1 hgrow1))
  have hO : Own w 84 .u32 w.heap.size [0] w1 := by
    refine ⟨?_, (Below.refl _ _).grown hgrow1 (Nat.le_refl _) (fun k h => by cases h)⟩
    rw [cu_zero] at hown1
    exact hown1
  have HO := Lib.hid hO
  have hcell1 := (hO.below.cell (p := ⟨b, 0, none⟩) (by show b < w.heap.size; omega)).trans hcell
  have hc0 := hO.cell 0 (by simp)
  have hf0 := hO.frozen 0
  have hcc : [0][0] = 0 := rfl
  rw [hcc] at hc0
  have HST := Lib.hid (fun d => hO.store 0 d)
  clear hO hown1 hgrow1 hi0 hz0 hz1 hz2 hcc hcell
  have HC := Lib.hid (dig_cut (HST.out q) (one_lt (n := 0) hql) (dval_one _ _ 0) hql 1 rfl)
  have HBL := Lib.hid (HST.out q).below
  clear HST HO
  refine wp_loop_rounds 2 ?_
  rw [rounds_succ]
  go_wp2
  rw [rounds_succ]
  go_wp2_with (first | (go_at_call 54; refine HC.out.mono ?_; rintro e w2 ⟨v, rfl, D1, rfl⟩))
  go_ret2
  exact ⟨v, rfl, HBL.out⟩
theorem limb_one (x : Nat) (w : World) : RowAt (w.alloc (.cells #[.int .u32 (x : Int)] 84)) .u32 (some ⟨w.heap.size, 0, none⟩) 1 [x] := by
  refine ⟨Nat.le_refl _, by unfold maxLen; omega, (fun h => by cases h), fun i hi => ⟨w.heap.size, rfl, by simp, ?_⟩⟩
  rw [World.cell?_alloc_at _ _ _ _ rfl]
  match i, hi with
  | 0, _ => rfl
theorem cut_one (x : Nat) (hx : x < 4294967296) (w : World) :
    Calls Try.prog 54 #[.slice (some ⟨w.heap.size, 0, none⟩) 1 1] (w.alloc (.cells #[.int .u32 (x : Int)] 84)) fun e w' => ∃ v, e = .returned v ∧ Dig w.heap.size (w.heap.size + 1) w' v x ∧ w' = w.alloc (.cells #[.int .u32 (x : Int)] 84) := by
  have hr := limb_one x w
  have hL : ∀ d ∈ [x], d < 4294967296 := by intro d hd; simp at hd; omega
  exact (wcut_any _ 1 [x] hL _ hr).mono fun e w' ⟨e1, e2⟩ => ⟨_, e1, by rw [← e2]; exact Dig.of_row hr hL (by simp [dval]) hx (by intro b e; cases e; omega), e2.symm⟩
set_option maxRecDepth 20000 in
theorem over_any (x y A z : Nat) (u v : Value) (hy0 : 0 < y) (w : World) (hu : Dig A w.heap.size w u x) (hv : Dig A w.heap.size w v y) (hA : A ≤ w.heap.size) (hzl : z < w.heap.size) (hzu : Av z u) :
    Calls Try.prog 59 #[u, v] w fun e w' => ∃ q r, e = .returned (.tuple #[q, r]) ∧ Dig A w'.heap.size w' r (x % y) ∧ Av z r ∧ Below w.heap.size w w' := by
  have HC := Lib.hid (wcmp_any u v x y _ _ _ _ w hu hv)
  have hy := hv.lt
  by_cases hxy : x < y
  · rw [cmpV_lt hxy] at HC
    have HU := Lib.hid hu
    rw [Nat.mod_eq_of_lt hxy]
    clear hu hv
    go_enter Try.func59, Try.ntmps59
    go_wp2_with (first | (go_at_call 36; refine HC.out.mono ?_; rintro e w2 ⟨n, rfl, rfl⟩))
    go_ret2
    exact ⟨_, _, rfl, HU.out.drewN n, hzu, below_drewN (Below.refl _ _) n⟩
  · have hx0 : 0 < x := by omega
    have hn : cmpV x y = .int .i64 1 ∨ cmpV x y = .int .i64 0 := by
      rcases Nat.lt_or_eq_of_le (Nat.le_of_not_lt hxy) with h | h
      · exact .inl (cmpV_gt h)
      · subst h; exact .inr (cmpV_eq _)
    have HS := Lib.hid fun n => short_any x y A _ u hx0 hy0 hy (w.drewN n) (hu.drewN n) (Nat.le_refl _)
    have hrl : x % y < 4294967296 := Nat.lt_trans (Nat.mod_lt _ hy0) hy
    have HT := Lib.hid fun W => cut_one (x % y) hrl W
    rcases hv with ⟨rfl, ao, cap, rfl, hc⟩ | ⟨_, _, b, cap, rfl, hc1, hc, hAb, hb, hcell⟩
    · omega
    clear hu hxy hx0 hrl hzu
    generalize x % y = r at *
    rcases hn with hn | hn
    all_goals
      rw [hn] at HC
      clear hn
      go_enter Try.func59, Try.ntmps59
      go_wp2_with (first | (go_at_call 36; refine HC.out.mono ?_; rintro e w2 ⟨n, rfl, rfl⟩) | (go_at_call 63; refine (HS.out _).mono ?_; rintro e w2 ⟨q, rfl, B1⟩) | (go_at_call 54; refine (HT.out _).mono ?_; rintro e w3 ⟨r', rfl, D1, rfl⟩))
      go_ret2
      refine ⟨_, _, rfl, D1.mono ?_ ?_, D1.av (.inr (Nat.lt_of_lt_of_le hzl B1.size)), ?_⟩
      · exact Nat.le_trans hA (by have := B1.size; exact this)
      · simp
      · exact (below_drewN (Below.refl _ _) n).on (B1.alloced)
end Go.Proofs.Ytacpakmglmfgnaa
