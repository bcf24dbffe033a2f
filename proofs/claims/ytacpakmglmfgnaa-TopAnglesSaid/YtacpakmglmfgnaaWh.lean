/-
  Wide's whole numbers below 2^32: less, times.
-/
import Derived.Test.YtacpakmglmfgnaaWg
namespace Go.Proofs.Ytacpakmglmfgnaa
open Go.RowKit

set_option maxHeartbeats 1000000 in
set_option maxRecDepth 20000 in
theorem less_any (x y A B C D : Nat) (u v : Value) (hxy : y ≤ x) (w : World) (hu : Dig A B w u x) (hv : Dig C D w v y) (hB : B ≤ w.heap.size) (hD : D ≤ w.heap.size) :
    Calls Try.prog 53 #[u, v] w fun e w' => ∃ r, e = .returned r ∧ Dig w.heap.size w'.heap.size w' r (x - y) ∧ Below w.heap.size w w' := by
  obtain ⟨i0, hi0, hz0, hz1, hz2⟩ := info_parts info91
  rcases hu with ⟨rfl, ao, cap, rfl, hc⟩ | ⟨hx0, hx, b, cap, rfl, hc1, hc, hA, hb, hcell⟩ <;>
  rcases hv with ⟨rfl, bo, kap, rfl, kc⟩ | ⟨hy0, hy, g, kap, rfl, kc1, kc, hC, kb, kcell⟩
  · unfold maxLen at hc kc
    go_enter Try.func53, Try.ntmps53
    go_wp2_with (first | (at_make; refine wpList_make_full _ rfl _ _ 69 rfl w.heap.size 84 i0 (.int .u32 0) 1 Try.underlying69 hi0 hz0 hz1 .i64 .i64 _ _ 0 rfl rfl (by go_num) (by go_num) (by rw [hz2]; omega) (by unfold maxLen; omega) (Nat.le_refl _) ?_; intro w1 hown1 hgrow1))
    have HO := Lib.hid (own_of_make hown1 hgrow1)
    have hsz : w.heap.size < w1.heap.size := own_lt HO.out.own _ rfl
    have HC := Lib.hid (dig_cut (x := 0) (L := []) HO.out (by intro d hd; simp at hd; try omega) rfl (by omega) 0 rfl)
    have HB := Lib.hid HO.out.below
    clear hown1 hgrow1 hi0 hz0 hz1 hz2
    refine wp_loop_rounds 1 ?_
    rw [rounds_succ]
    go_wp2_with (first | (go_at_call 54; refine HC.out.mono ?_; rintro e w2 ⟨r, rfl, D1, rfl⟩))
    go_ret
    exact ⟨_, rfl, D1.mono (Nat.le_refl _) (by first | exact hsz | (simp only [World.size_setCell]; omega)), HB.out⟩
  · omega
  · unfold maxLen at hc kc
    rw [Nat.sub_zero]
    have hq : (x : Int) / 9223372036854775808 = 0 := by omega
    go_enter Try.func53, Try.ntmps53
    go_wp2_with (first | (at_make; refine wpList_make_full _ rfl _ _ 69 rfl w.heap.size 84 i0 (.int .u32 0) 1 Try.underlying69 hi0 hz0 hz1 .i64 .i64 _ _ 1 rfl rfl (by go_num) (by go_num) (by rw [hz2]; omega) (by unfold maxLen; omega) (Nat.le_refl _) ?_; intro w1 hown1 hgrow1))
    have HO := Lib.hid (own_of_make hown1 hgrow1)
    have hsz : w.heap.size < w1.heap.size := own_lt HO.out.own _ rfl
    obtain ⟨p0, p1⟩ := own_cells1 HO.out
    have HC := Lib.hid (dig_cut (x := x) (HO.out.store 0 x) (one_lt (V := x) (n := 0) (by omega)) (dval_one _ _ 0) (by omega) 1 rfl)
    have HB := Lib.hid (HO.out.store 0 x).below
    have hcell1 := (HO.out.below.cell (p := ⟨b, 0, none⟩) (by show b < w.heap.size; omega)).trans hcell
    clear hcell
    clear hown1 hgrow1 hi0 hz0 hz1 hz2
    refine wp_loop_rounds 2 ?_
    rw [rounds_succ]
    go_wp2
    rw [rounds_succ]
    go_wp2_with (first | (go_at_call 54; refine HC.out.mono ?_; rintro e w2 ⟨r, rfl, D1, rfl⟩))
    go_ret
    exact ⟨_, rfl, D1.mono (Nat.le_refl _) (by first | exact hsz | (simp only [World.size_setCell]; omega)), HB.out⟩
  · unfold maxLen at hc kc
    obtain ⟨z, hz⟩ : ∃ z, z = x - y := ⟨_, rfl⟩
    have exy : (x : Int) - y = z := by omega
    have hzl : z < 4294967296 := by omega
    rw [← hz]
    clear hz
    have hq : (z : Int) / 9223372036854775808 = 0 := by omega
    have hq2 : (z : Int) % 4294967296 = z := by omega
    have hq3 : IntKind.u64.wrap (z : Int) = z := by rw [IntKind.wrap_u64]; omega
    go_enter Try.func53, Try.ntmps53
    go_wp2_with (first | (at_make; refine wpList_make_full _ rfl _ _ 69 rfl w.heap.size 84 i0 (.int .u32 0) 1 Try.underlying69 hi0 hz0 hz1 .i64 .i64 _ _ 1 rfl rfl (by go_num) (by go_num) (by rw [hz2]; omega) (by unfold maxLen; omega) (Nat.le_refl _) ?_; intro w1 hown1 hgrow1))
    have HO := Lib.hid (own_of_make hown1 hgrow1)
    have hsz : w.heap.size < w1.heap.size := own_lt HO.out.own _ rfl
    obtain ⟨p0, p1⟩ := own_cells1 HO.out
    have HC := Lib.hid (dig_cut (x := z) (HO.out.store 0 z) (one_lt (V := z) (n := 0) (by omega)) (dval_one _ _ 0) (by omega) 1 rfl)
    have HB := Lib.hid (HO.out.store 0 z).below
    have hcell1 := (HO.out.below.cell (p := ⟨b, 0, none⟩) (by show b < w.heap.size; omega)).trans hcell
    clear hcell
    have kcell1 := (HO.out.below.cell (p := ⟨g, 0, none⟩) (by show g < w.heap.size; omega)).trans kcell
    clear kcell
    clear hown1 hgrow1 hi0 hz0 hz1 hz2
    refine wp_loop_rounds 2 ?_
    rw [rounds_succ]
    go_wp2
    rw [rounds_succ]
    go_wp2_with (first | (go_at_call 54; refine HC.out.mono ?_; rintro e w2 ⟨r, rfl, D1, rfl⟩))
    go_ret
    exact ⟨_, rfl, D1.mono (Nat.le_refl _) (by first | exact hsz | (simp only [World.size_setCell]; omega)), HB.out⟩
set_option maxHeartbeats 1000000 in
set_option maxRecDepth 20000 in
theorem wtimes_any (x y A B C D : Nat) (u v : Value) (hxy : x * y < 4294967296) (w : World) (hu : Dig A B w u x) (hv : Dig C D w v y) (hB : B ≤ w.heap.size) (hD : D ≤ w.heap.size) :
    Calls Try.prog 49 #[u, v] w fun e w' => ∃ r, e = .returned r ∧ Dig w.heap.size w'.heap.size w' r (x * y) ∧ Below w.heap.size w w' := by
  obtain ⟨i0, hi0, hz0, hz1, hz2⟩ := info_parts info91
  rcases hu with ⟨rfl, ao, cap, rfl, hc⟩ | ⟨hx0, hx, b, cap, rfl, hc1, hc, hA, hb, hcell⟩ <;>
  rcases hv with ⟨rfl, bo, kap, rfl, kc⟩ | ⟨hy0, hy, g, kap, rfl, kc1, kc, hC, kb, kcell⟩
  · unfold maxLen at hc kc
    rw [Nat.zero_mul]
    go_enter Try.func49, Try.ntmps49
    go_wp2_with (first | (at_make; refine wpList_make_full _ rfl _ _ 69 rfl w.heap.size 84 i0 (.int .u32 0) 1 Try.underlying69 hi0 hz0 hz1 .i64 .i64 _ _ 0 rfl rfl (by go_num) (by go_num) (by rw [hz2]; omega) (by unfold maxLen; omega) (Nat.le_refl _) ?_; intro w1 hown1 hgrow1))
    have HO := Lib.hid (own_of_make hown1 hgrow1)
    have hsz : w.heap.size < w1.heap.size := own_lt HO.out.own _ rfl
    have HC := Lib.hid (dig_cut (x := 0) (L := []) HO.out (by intro d hd; simp at hd; try omega) rfl (by omega) 0 rfl)
    have HB := Lib.hid HO.out.below
    clear hown1 hgrow1 hi0 hz0 hz1 hz2
    refine wp_loop_rounds 1 ?_
    rw [rounds_succ]
    go_wp2_with (first | (go_at_call 54; refine HC.out.mono ?_; rintro e w2 ⟨r, rfl, D1, rfl⟩))
    go_ret
    exact ⟨_, rfl, D1.mono (Nat.le_refl _) (by first | exact hsz | (simp only [World.size_setCell]; omega)), HB.out⟩
  · unfold maxLen at hc kc
    rw [Nat.zero_mul]
    go_enter Try.func49, Try.ntmps49
    go_wp2_with (first | (at_make; refine wpList_make_full _ rfl _ _ 69 rfl w.heap.size 84 i0 (.int .u32 0) 1 Try.underlying69 hi0 hz0 hz1 .i64 .i64 _ _ 1 rfl rfl (by go_num) (by go_num) (by rw [hz2]; omega) (by unfold maxLen; omega) (Nat.le_refl _) ?_; intro w1 hown1 hgrow1))
    have HO := Lib.hid (own_of_make hown1 hgrow1)
    have hsz : w.heap.size < w1.heap.size := own_lt HO.out.own _ rfl
    have HC := Lib.hid (dig_cut (x := 0) (L := [0]) HO.out (by intro d hd; simp at hd; try omega) rfl (by omega) 1 rfl)
    have HB := Lib.hid HO.out.below
    clear hown1 hgrow1 hi0 hz0 hz1 hz2
    refine wp_loop_rounds 1 ?_
    rw [rounds_succ]
    go_wp2_with (first | (go_at_call 54; refine HC.out.mono ?_; rintro e w2 ⟨r, rfl, D1, rfl⟩))
    go_ret
    exact ⟨_, rfl, D1.mono (Nat.le_refl _) (by first | exact hsz | (simp only [World.size_setCell]; omega)), HB.out⟩
  · unfold maxLen at hc kc
    rw [Nat.mul_zero]
    go_enter Try.func49, Try.ntmps49
    go_wp2_with (first | (at_make; refine wpList_make_full _ rfl _ _ 69 rfl w.heap.size 84 i0 (.int .u32 0) 1 Try.underlying69 hi0 hz0 hz1 .i64 .i64 _ _ 1 rfl rfl (by go_num) (by go_num) (by rw [hz2]; omega) (by unfold maxLen; omega) (Nat.le_refl _) ?_; intro w1 hown1 hgrow1))
    have HO := Lib.hid (own_of_make hown1 hgrow1)
    have hsz : w.heap.size < w1.heap.size := own_lt HO.out.own _ rfl
    obtain ⟨p0, p1⟩ := own_cells1 HO.out
    have HC := Lib.hid (dig_cut (x := 0) (HO.out.store 0 0) (one_lt (V := 0) (n := 0) (by omega)) (dval_one _ _ 0) (by omega) 1 rfl)
    have HB := Lib.hid (HO.out.store 0 0).below
    have hcell1 := (HO.out.below.cell (p := ⟨b, 0, none⟩) (by show b < w.heap.size; omega)).trans hcell
    clear hcell
    clear hown1 hgrow1 hi0 hz0 hz1 hz2
    refine wp_loop_rounds 2 ?_
    rw [rounds_succ]
    go_wp2
    refine wp_loop_rounds 1 ?_
    rw [rounds_succ]
    go_wp2
    rw [rounds_succ]
    go_wp2_with (first | (go_at_call 54; refine HC.out.mono ?_; rintro e w2 ⟨r, rfl, D1, rfl⟩))
    go_ret
    exact ⟨_, rfl, D1.mono (Nat.le_refl _) (by first | exact hsz | (simp only [World.size_setCell]; omega)), HB.out⟩
  · unfold maxLen at hc kc
    obtain ⟨z, hz⟩ : ∃ z, z = x * y := ⟨_, rfl⟩
    have exy : (x : Int) * y = z := by rw [hz]; simp
    rw [← hz] at hxy ⊢
    clear hz
    have hq : (z : Int) / 4294967296 = 0 := by omega
    have hq2 : (z : Int) % 4294967296 = z := by omega
    go_enter Try.func49, Try.ntmps49
    go_wp2_with (first | (at_make; refine wpList_make_full _ rfl _ _ 69 rfl w.heap.size 84 i0 (.int .u32 0) 1 Try.underlying69 hi0 hz0 hz1 .i64 .i64 _ _ 2 rfl rfl (by go_num) (by go_num) (by rw [hz2]; omega) (by unfold maxLen; omega) (Nat.le_refl _) ?_; intro w1 hown1 hgrow1))
    have HO := Lib.hid (own_of_make hown1 hgrow1)
    have hsz : w.heap.size < w1.heap.size := own_lt HO.out.own _ rfl
    obtain ⟨p0, p1, p2, p3⟩ := own_cells2 HO.out
    have HT := Lib.hid (own_two HO.out z 0)
    have HC := Lib.hid (dig_cut (x := z) HT.out (two_lt (by omega) (by omega)) (by simp [dval]) (by omega) 2 rfl)
    have HB := Lib.hid HT.out.below
    have hcell1 := (HO.out.below.cell (p := ⟨b, 0, none⟩) (by show b < w.heap.size; omega)).trans hcell
    clear hcell
    have kcell1 := (HO.out.below.cell (p := ⟨g, 0, none⟩) (by show g < w.heap.size; omega)).trans kcell
    clear kcell
    clear hown1 hgrow1 hi0 hz0 hz1 hz2
    refine wp_loop_rounds 2 ?_
    rw [rounds_succ]
    go_wp2
    refine wp_loop_rounds 2 ?_
    rw [rounds_succ]
    go_wp2
    rw [rounds_succ]
    go_wp2
    rw [rounds_succ]
    go_wp2_with (first | (go_at_call 54; refine HC.out.mono ?_; rintro e w2 ⟨r, rfl, D1, rfl⟩))
    go_ret
    exact ⟨_, rfl, D1.mono (Nat.le_refl _) (by first | exact hsz | (simp only [World.size_setCell]; omega)), HB.out⟩
end Go.Proofs.Ytacpakmglmfgnaa
