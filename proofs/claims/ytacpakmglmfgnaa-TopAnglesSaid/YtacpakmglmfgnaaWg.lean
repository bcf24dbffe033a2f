/-
  Wide's whole numbers below 2^32: plus, less, times.
-/
import Derived.Test.YtacpakmglmfgnaaWf
namespace Go.Proofs.Ytacpakmglmfgnaa
open Go.RowKit

theorem own_of_make {w w1 : World} {n : Nat} (hown : w1.ownsRow w.heap.size 84 1 (.slice (some ⟨w.heap.size, 0, none⟩) n n) n (madeCells (Value.int .u32 0).cells (n * 1)).toList) (hg : w.grownBy w1 none) : Own w 84 .u32 w.heap.size (List.replicate n 0) w1 := by
  refine ⟨?_, (Below.refl _ _).grown hg (Nat.le_refl _) (fun k h => by cases h)⟩
  rw [cu_zero] at hown
  rw [List.length_replicate]; exact hown
theorem own_two {w w1 : World} {g : Nat} (h : Own w 84 .u32 g [0, 0] w1) (d e : Nat) : Own w 84 .u32 g [d, e] ((w1.setCell ⟨g, 0, none⟩ (.int .u32 (d : Nat))).setCell ⟨g, 1, none⟩ (.int .u32 (e : Nat))) :=
  (h.store 0 d).store 1 e
theorem own_cells2 {w w1 : World} {g : Nat} (h : Own w 84 .u32 g [0, 0] w1) : w1.cell? ⟨g, 0, none⟩ = some (.int .u32 0) ∧ w1.cell? ⟨g, 1, none⟩ = some (.int .u32 0) ∧ w1.frozen? ⟨g, 0, none⟩ = false ∧ w1.frozen? ⟨g, 1, none⟩ = false :=
  ⟨h.cell 0 (by simp), h.cell 1 (by simp), h.frozen 0, h.frozen 1⟩
theorem own_cells1 {w w1 : World} {g : Nat} (h : Own w 84 .u32 g [0] w1) : w1.cell? ⟨g, 0, none⟩ = some (.int .u32 0) ∧ w1.frozen? ⟨g, 0, none⟩ = false :=
  ⟨h.cell 0 (by simp), h.frozen 0⟩
theorem two_lt {d e : Nat} (h : d < 4294967296) (h2 : e < 4294967296) : ∀ x ∈ [d, e], x < 4294967296 := by
  intro x hx; simp at hx; rcases hx with rfl | rfl <;> assumption
set_option maxHeartbeats 1000000 in
set_option maxRecDepth 20000 in
theorem plus_any (x y A B C D : Nat) (u v : Value) (hxy : x + y < 4294967296) (w : World) (hu : Dig A B w u x) (hv : Dig C D w v y) (hB : B ≤ w.heap.size) (hD : D ≤ w.heap.size) :
    Calls Try.prog 52 #[u, v] w fun e w' => ∃ r, e = .returned r ∧ Dig w.heap.size w'.heap.size w' r (x + y) ∧ Below w.heap.size w w' := by
  obtain ⟨i0, hi0, hz0, hz1, hz2⟩ := info_parts info91
  rcases hu with ⟨rfl, ao, cap, rfl, hc⟩ | ⟨hx0, hx, b, cap, rfl, hc1, hc, hA, hb, hcell⟩ <;>
  rcases hv with ⟨rfl, bo, kap, rfl, kc⟩ | ⟨hy0, hy, g, kap, rfl, kc1, kc, hC, kb, kcell⟩
  · unfold maxLen at hc kc
    go_enter Try.func52, Try.ntmps52
    go_wp2_with (first | (at_make; refine wpList_make_full _ rfl _ _ 69 rfl w.heap.size 84 i0 (.int .u32 0) 1 Try.underlying69 hi0 hz0 hz1 .i64 .i64 _ _ 1 rfl rfl (by go_num) (by go_num) (by rw [hz2]; omega) (by unfold maxLen; omega) (Nat.le_refl _) ?_; intro w1 hown1 hgrow1))
    have HO := Lib.hid (own_of_make hown1 hgrow1)
    obtain ⟨p0, p1⟩ := own_cells1 HO.out
    have HC := Lib.hid (dig_cut (x := 0) (HO.out.store 0 0) (one_lt (V := 0) (n := 0) (by omega)) rfl (by omega) 1 rfl)
    have HB := Lib.hid (HO.out.store 0 0).below
    have hsz : w.heap.size < w1.heap.size := own_lt HO.out.own _ rfl
    clear hown1 hgrow1 hi0 hz0 hz1 hz2
    refine wp_loop_rounds 1 ?_
    rw [rounds_succ]
    go_wp2_with (first | (go_at_call 54; refine HC.out.mono ?_; rintro e w2 ⟨r, rfl, D1, rfl⟩))
    go_ret
    exact ⟨_, rfl, D1.mono (Nat.le_refl _) (by simp only [World.size_setCell]; omega), HB.out⟩
  · unfold maxLen at hc kc
    rw [Nat.zero_add] at hxy ⊢
    have hq : (y : Int) / 4294967296 = 0 := by omega
    go_enter Try.func52, Try.ntmps52
    go_wp2_with (first | (at_make; refine wpList_make_full _ rfl _ _ 69 rfl w.heap.size 84 i0 (.int .u32 0) 1 Try.underlying69 hi0 hz0 hz1 .i64 .i64 _ _ 2 rfl rfl (by go_num) (by go_num) (by rw [hz2]; omega) (by unfold maxLen; omega) (Nat.le_refl _) ?_; intro w1 hown1 hgrow1))
    have HO := Lib.hid (own_of_make hown1 hgrow1)
    obtain ⟨p0, p1, p2, p3⟩ := own_cells2 HO.out
    have HT := Lib.hid (own_two HO.out y 0)
    have HC := Lib.hid (dig_cut (x := y) HT.out (two_lt (by omega) (by omega)) (by simp [dval]) (by omega) 2 rfl)
    have HB := Lib.hid HT.out.below
    have hsz : w.heap.size < w1.heap.size := own_lt HO.out.own _ rfl
    have kcell1 := (HO.out.below.cell (p := ⟨g, 0, none⟩) (by show g < w.heap.size; omega)).trans kcell
    clear kcell
    clear hown1 hgrow1 hi0 hz0 hz1 hz2 HT
    refine wp_loop_rounds 2 ?_
    rw [rounds_succ]
    go_wp2
    rw [rounds_succ]
    go_wp2_with (first | (go_at_call 54; refine HC.out.mono ?_; rintro e w2 ⟨r, rfl, D1, rfl⟩))
    go_ret
    exact ⟨_, rfl, D1.mono (Nat.le_refl _) (by simp only [World.size_setCell]; omega), HB.out⟩
  · unfold maxLen at hc kc
    rw [Nat.add_zero] at hxy ⊢
    have hq : (x : Int) / 4294967296 = 0 := by omega
    go_enter Try.func52, Try.ntmps52
    go_wp2_with (first | (at_make; refine wpList_make_full _ rfl _ _ 69 rfl w.heap.size 84 i0 (.int .u32 0) 1 Try.underlying69 hi0 hz0 hz1 .i64 .i64 _ _ 2 rfl rfl (by go_num) (by go_num) (by rw [hz2]; omega) (by unfold maxLen; omega) (Nat.le_refl _) ?_; intro w1 hown1 hgrow1))
    have HO := Lib.hid (own_of_make hown1 hgrow1)
    obtain ⟨p0, p1, p2, p3⟩ := own_cells2 HO.out
    have HT := Lib.hid (own_two HO.out x 0)
    have HC := Lib.hid (dig_cut (x := x) HT.out (two_lt (by omega) (by omega)) (by simp [dval]) (by omega) 2 rfl)
    have HB := Lib.hid HT.out.below
    have hsz : w.heap.size < w1.heap.size := own_lt HO.out.own _ rfl
    have hcell1 := (HO.out.below.cell (p := ⟨b, 0, none⟩) (by show b < w.heap.size; omega)).trans hcell
    clear hcell
    clear hown1 hgrow1 hi0 hz0 hz1 hz2 HT
    refine wp_loop_rounds 2 ?_
    rw [rounds_succ]
    go_wp2
    rw [rounds_succ]
    go_wp2_with (first | (go_at_call 54; refine HC.out.mono ?_; rintro e w2 ⟨r, rfl, D1, rfl⟩))
    go_ret
    exact ⟨_, rfl, D1.mono (Nat.le_refl _) (by simp only [World.size_setCell]; omega), HB.out⟩
  · unfold maxLen at hc kc
    obtain ⟨z, hz⟩ : ∃ z, z = x + y := ⟨_, rfl⟩
    have exy : (x : Int) + y = z := by omega
    rw [← hz] at hxy ⊢
    clear hz
    have hq : (z : Int) / 4294967296 = 0 := by omega
    have hq2 : (z : Int) % 4294967296 = z := by omega
    go_enter Try.func52, Try.ntmps52
    go_wp2_with (first | (at_make; refine wpList_make_full _ rfl _ _ 69 rfl w.heap.size 84 i0 (.int .u32 0) 1 Try.underlying69 hi0 hz0 hz1 .i64 .i64 _ _ 2 rfl rfl (by go_num) (by go_num) (by rw [hz2]; omega) (by unfold maxLen; omega) (Nat.le_refl _) ?_; intro w1 hown1 hgrow1))
    have HO := Lib.hid (own_of_make hown1 hgrow1)
    obtain ⟨p0, p1, p2, p3⟩ := own_cells2 HO.out
    have HT := Lib.hid (own_two HO.out z 0)
    have HC := Lib.hid (dig_cut (x := z) HT.out (two_lt (by omega) (by omega)) (by simp [dval]) (by omega) 2 rfl)
    have HB := Lib.hid HT.out.below
    have hsz : w.heap.size < w1.heap.size := own_lt HO.out.own _ rfl
    have kcell1 := (HO.out.below.cell (p := ⟨g, 0, none⟩) (by show g < w.heap.size; omega)).trans kcell
    clear kcell
    have hcell1 := (HO.out.below.cell (p := ⟨b, 0, none⟩) (by show b < w.heap.size; omega)).trans hcell
    clear hcell
    clear hown1 hgrow1 hi0 hz0 hz1 hz2 HT
    refine wp_loop_rounds 2 ?_
    rw [rounds_succ]
    go_wp2
    rw [rounds_succ]
    go_wp2_with (first | (go_at_call 54; refine HC.out.mono ?_; rintro e w2 ⟨r, rfl, D1, rfl⟩))
    go_ret
    exact ⟨_, rfl, D1.mono (Nat.le_refl _) (by simp only [World.size_setCell]; omega), HB.out⟩
end Go.Proofs.Ytacpakmglmfgnaa
