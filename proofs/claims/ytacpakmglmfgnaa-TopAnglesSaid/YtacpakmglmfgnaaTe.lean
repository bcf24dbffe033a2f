/-
  The walks of turns, times, Mul64, Rem64, lowest, turn.
-/
import Derived.Test.YtacpakmglmfgnaaTd
import Derived.Deep.CutRange
namespace Go.Proofs.Ytacpakmglmfgnaa
open Go.RowKit

theorem alloc_below (w : World) (o : Obj) : Below w.heap.size w (w.alloc o) := (Below.refl _ _).alloc (Nat.le_refl _) _
theorem _root_.Go.RowKit.Below.on {w0 w1 w2 : World} (h : Below w0.heap.size w0 w1) (k : Below w1.heap.size w1 w2) : Below w0.heap.size w0 w2 := h.trans (k.mono h.size)
theorem _root_.Go.RowKit.Below.alloced {a w : World} (h : Below a.heap.size a w) {o : Obj} : Below a.heap.size a (w.alloc o) := h.alloc h.size o
theorem new0 (w : World) (t : TypeId) (o0 o1 : Value) : (w.alloc (.cells #[o0, o1] t)).cell? ⟨w.heap.size, 0, none⟩ = some o0 := by rw [World.cell?_alloc_at _ _ _ _ rfl]; rfl
theorem new1 (w : World) (t : TypeId) (o0 o1 : Value) : (w.alloc (.cells #[o0, o1] t)).cell? ⟨w.heap.size, 1, none⟩ = some o1 := by rw [World.cell?_alloc_at _ _ _ _ rfl]; rfl
theorem newf (w : World) (cs : Array Value) (t : TypeId) (g i : Nat) (hg : g = w.heap.size) : (w.alloc (.cells cs t)).frozen? ⟨g, i, none⟩ = false := by
  subst hg
  first
    | exact World.frozen?_alloc_at _ _ _ _ rfl
    | (simp [World.frozen?, World.alloc])
theorem cell_off (w : World) (g i j : Nat) (v : Value) (h : i ≠ j) : (w.setCell ⟨g, i, none⟩ v).cell? ⟨g, j, none⟩ = w.cell? ⟨g, j, none⟩ :=
  World.cell?_setCells_out g [v] i w ⟨g, j, none⟩ (fun _ _ => by simp; omega)
theorem two_set (w : World) (g : Nat) (v0 v1 o0 o1 : Value) (h0 : w.cell? ⟨g, 0, none⟩ = some o0) (h1 : w.cell? ⟨g, 1, none⟩ = some o1) :
    ((w.setCell ⟨g, 0, none⟩ v0).setCell ⟨g, 1, none⟩ v1).cell? ⟨g, 0, none⟩ = some v0 ∧ ((w.setCell ⟨g, 0, none⟩ v0).setCell ⟨g, 1, none⟩ v1).cell? ⟨g, 1, none⟩ = some v1 ∧
    ∀ B, B ≤ g → Below B w ((w.setCell ⟨g, 0, none⟩ v0).setCell ⟨g, 1, none⟩ v1) := by
  have a0 : (w.setCell ⟨g, 0, none⟩ v0).cell? ⟨g, 0, none⟩ = some v0 := World.cell?_setCell_same _ _ _ h0
  have a1 : (w.setCell ⟨g, 0, none⟩ v0).cell? ⟨g, 1, none⟩ = some o1 := by rw [cell_off _ _ _ _ _ (by omega)]; exact h1
  exact ⟨by rw [cell_off _ _ _ _ _ (by omega)]; exact a0, World.cell?_setCell_same _ _ _ a1, fun B hB => ((Below.refl B w).setCell hB _).setCell hB _⟩
theorem turns_yes (d : Nat) (h1 : 2 ≤ d) (h2 : d ≤ 64) (w : World) :
    Calls Try.prog 14 #[.int .i64 (d : Nat)] w fun e w' => e = .returned (.bool true) ∧ w = w' := by
  have g1 : (2 : Int) ≤ d := by omega
  have g2 : (d : Int) ≤ 64 := by omega
  go_enter Try.func14, Try.ntmps14
  go_wp2
  go_ret
  exact ⟨ret_b (by simp; try omega), rfl⟩
theorem cell_one_at (w : World) (a b : Value) {t : TypeId} : (w.alloc (.cells #[a, b] t)).cell? ⟨w.heap.size, 0, none⟩ = some a := by rw [World.cell?_alloc_at _ _ _ _ rfl]; rfl
theorem pow_mul_le {p i k : Nat} (hp : 0 < p) (h : i ≤ k) : p ^ i ≤ p ^ k := Nat.pow_le_pow_right hp h
theorem times_any (p : Nat) (c : Int) (k : Nat) (hp : 0 < p) (hk : p ^ k < 4294967296) (hk2 : k ≤ 4096) (w : World) :
    Calls Try.prog 45 #[.agg #[.int .u64 (p : Nat), .int .i64 c], .int .i64 (k : Nat)] w fun e w' => e = .returned (.int .u64 (p ^ k : Nat)) ∧ Below w.heap.size w w' := by
  have HP := Lib.hid fun i h => Nat.lt_of_le_of_lt (pow_mul_le hp (i := i) (k := k) h) hk
  clear hk
  go_enter Try.func45, Try.ntmps45
  go_wp2
  go_loop [5, 7] (fun vx vi => ∃ i x : Nat, i ≤ k ∧ x < 4294967296 ∧ vi = .int .i64 (i : Int) ∧ vx = .int .u64 (x : Int) ∧ Hid (x = p ^ i)) (fun _ vi => k - (intOf vi).toNat)
  case atStart => exact ⟨0, 1, Nat.zero_le _, by omega, rfl, rfl, rfl⟩
  case round =>
    obtain ⟨i, x, hi, hx, rfl, rfl, HX⟩ := hrel
    have hc := cell_one_at w (.int .u64 (p : Nat)) (.int .i64 c) (t := 89)
    by_cases hl : i < k
    · have hz := HP.out (i + 1) hl
      have ez : ∃ z : Nat, z = x * p ∧ (x : Int) * p = (z : Int) ∧ z = p ^ (i + 1) := ⟨_, rfl, by simp, by rw [HX.out, Nat.pow_succ]⟩
      obtain ⟨z, hz1, hz2, hz3⟩ := ez
      rw [← hz3] at hz
      have HZ := Lib.hid hz3
      have hz64 : z < 18446744073709551616 := by omega
      clear hz1 hz3
      go_wp2
      go_round
      case rel => exact ⟨i + 1, z, hl, hz, by go_num, by first | rfl | go_num, HZ⟩
      case measure => simp [intOf]; omega
    · have hie : i = k := by omega
      subst hie
      go_wp2
      go_ret
      exact ⟨ret_i (by rw [HX.out]; simp), alloc_below _ _⟩
theorem mul64_any (x y : Nat) (hx : x < 4294967296) (hy : y < 4294967296) (w : World) :
    Calls Try.prog 28 #[.int .u64 (x : Nat), .int .u64 (y : Nat)] w fun e w' => e = .returned (.tuple #[.int .u64 0, .int .u64 (x * y : Nat)]) ∧ w = w' := by
  have hxy : x * y < 4294967296 * 4294967296 := Nat.mul_lt_mul'' hx hy
  have e1 := low32 x (by omega)
  have e2 := low32 y (by omega)
  rw [Nat.mod_eq_of_lt hx] at e1
  rw [Nat.mod_eq_of_lt hy] at e2
  have ez : ∃ z : Nat, z = x * y ∧ (x : Int) * y = (z : Int) := ⟨_, rfl, by simp⟩
  obtain ⟨z, hz1, hz2⟩ := ez
  rw [← hz1] at hxy ⊢
  have hz64 : z < 18446744073709551616 := by omega
  have d1 : (x : Int) / 4294967296 = 0 := by omega
  have d2 : (y : Int) / 4294967296 = 0 := by omega
  have e3 : bits .and .u64 ((z : Int) / 4294967296) 4294967295 = (z : Int) / 4294967296 := by
    have h := low32 (z / 4294967296) (by omega)
    rw [Nat.mod_eq_of_lt (by omega), Int.natCast_ediv] at h
    exact h
  have d3 : (z : Int) / 4294967296 / 4294967296 = 0 := by omega
  clear hz1 hxy hx hy
  go_enter Try.func28, Try.ntmps28
  go_wp2
  go_ret2
  exact ⟨by simp [*], rfl⟩
theorem rem64_any (z d r : Nat) (hz : z < 18446744073709551616) (hd : 0 < d) (hd2 : d < 18446744073709551616) (hr : z % d = r) (w : World) :
    Calls Try.prog 29 #[.int .u64 0, .int .u64 (z : Nat), .int .u64 (d : Nat)] w fun e w' => ∃ n, e = .returned (.int .u64 (r : Nat)) ∧ w' = w.drewN n := by
  have h1 : ((d : Int) == 0) = false := by rw [beq_eq_false_iff_ne]; omega
  have h2 : ¬ (d : Int) = 0 := by omega
  have h3 : (0 : Int) % d = 0 := by simp
  have h4 : ¬ (d : Int) ≤ 0 := by omega
  have h5 : (z : Int) % d = r := by rw [← hr]; rfl
  clear hr
  go_enter Try.func29, Try.ntmps29
  go_wp2
  go_quiet (fail)
  go_wp2
  go_ret
  exact ⟨_, rfl, rfl⟩
/-- The value of a part. -/
def partV (a b : Nat) : Value := .agg #[.int .u64 (a : Nat), .int .u64 (b : Nat)]
theorem lowest_any (a b : Nat) (ha : a < 18446744073709551616) (hb : b < 18446744073709551616) (hb0 : 0 < b) (w : World) :
    Calls Try.prog 12 #[.int .u64 (a : Nat), .int .u64 (b : Nat)] w fun e w' => e = .returned (partV (a / Nat.gcd a b) (b / Nat.gcd a b)) ∧ Below w.heap.size w w' := by
  have HG := Lib.hid fun W => gcd_any a b ha hb W
  have hgp : 0 < Nat.gcd a b := Nat.gcd_pos_of_pos_right _ hb0
  have hgl : Nat.gcd a b < 18446744073709551616 := Nat.lt_of_le_of_lt (Nat.gcd_le_right _ hb0) hb
  unfold partV
  obtain ⟨x, hx⟩ : ∃ x, a / Nat.gcd a b = x := ⟨_, rfl⟩
  obtain ⟨y, hy⟩ : ∃ y, b / Nat.gcd a b = y := ⟨_, rfl⟩
  rw [hx, hy]
  generalize Nat.gcd a b = g at *
  have h1 : ((g : Int) == 0) = false := by rw [beq_eq_false_iff_ne]; omega
  have h2 : ¬ (g : Int) = 0 := by omega
  have h3 : (a : Int) / g = x := by rw [← hx]; rfl
  have h4 : (b : Int) / g = y := by rw [← hy]; rfl
  have h5 : ¬ g = 0 := by omega
  have hxl : x < 18446744073709551616 := by rw [← hx]; exact Nat.lt_of_le_of_lt (Nat.div_le_self _ _) ha
  have hyl : y < 18446744073709551616 := by rw [← hy]; exact Nat.lt_of_le_of_lt (Nat.div_le_self _ _) hb
  have h6 : IntKind.u64.wrap (x : Int) = x := by rw [IntKind.wrap_u64]; omega
  have h7 : IntKind.u64.wrap (y : Int) = y := by rw [IntKind.wrap_u64]; omega
  clear hx hy hxl hyl
  go_enter Try.func12, Try.ntmps12
  go_wp2_with (first | (go_at_call 23; refine (HG.out _).mono ?_; rintro e w' ⟨n, rfl, rfl⟩))
  go_region_law (fail)
  all_goals
    go_wp2
    have hin := two_set ((w.alloc (.cells #[.int .u64 0, .int .u64 0] 44)).drewN (n + 1)) w.heap.size (.int .u64 (x : Nat)) (.int .u64 (y : Nat)) _ _ (new0 w 44 _ _) (new1 w 44 _ _)
    have HB := Lib.hid ((below_drewN (alloc_below w (.cells #[.int .u64 0, .int .u64 0] 44)) (n + 1)).trans (hin.2.2 w.heap.size (Nat.le_refl _)))
    obtain ⟨r0, r1, _⟩ := hin
    generalize (((w.alloc (.cells #[.int .u64 0, .int .u64 0] 44)).drewN (n + 1)).setCell ⟨w.heap.size, 0, none⟩ (.int .u64 (x : Nat))).setCell ⟨w.heap.size, 1, none⟩ (.int .u64 (y : Nat)) = w9 at *
    refine bodyPost_ret (by simp [results, Try.results12, go_sem, r0, r1]; try rfl) rfl ?_
    exact ⟨rfl, HB.out⟩
end Go.Proofs.Ytacpakmglmfgnaa
