/-
  The walk of turn.
-/
import Derived.Test.YtacpakmglmfgnaaTe
import Derived.Deep.RegionHeld3
namespace Go.Proofs.Ytacpakmglmfgnaa
open Go.RowKit

/-- turn's boxes: the part, the answer. -/
structure TurnM (w0 : World) (g x y : Nat) (w : World) : Prop where
  lt : g + 1 < w.heap.size
  a : w.cell? ⟨g, 0, none⟩ = some (.int .u64 (x : Nat))
  b : w.cell? ⟨g, 1, none⟩ = some (.int .u64 (y : Nat))
  c : w.cell? ⟨g + 1, 0, none⟩ = some (.int .u64 0)
  d : w.cell? ⟨g + 1, 1, none⟩ = some (.int .u64 0)
  f : ∀ i, w.frozen? ⟨g + 1, i, none⟩ = false
  B : Below w0.heap.size w0 w
theorem TurnM.on {w0 w w1 : World} {b x y : Nat} (h : TurnM w0 b x y w) (k : Below w.heap.size w w1) : TurnM w0 b x y w1 := by
  have hl := h.lt
  have l0 : b < w.heap.size := by omega
  exact ⟨Nat.lt_of_lt_of_le hl k.size, (k.cell (p := ⟨b, 0, none⟩) l0).trans h.a, (k.cell (p := ⟨b, 1, none⟩) l0).trans h.b, (k.cell (p := ⟨b + 1, 0, none⟩) hl).trans h.c, (k.cell (p := ⟨b + 1, 1, none⟩) hl).trans h.d,
    fun i => (k.frozen (p := ⟨b + 1, i, none⟩) hl).trans (h.f i), h.B.on k⟩
theorem TurnM.drew {w0 w : World} {b x y : Nat} (h : TurnM w0 b x y w) : TurnM w0 b x y w.drew := ⟨h.lt, h.a, h.b, h.c, h.d, h.f, h.B.drew⟩
theorem TurnM.drewN {w0 w : World} {b x y : Nat} (h : TurnM w0 b x y w) (n : Nat) : TurnM w0 b x y (w.drewN n) := ⟨h.lt, h.a, h.b, h.c, h.d, h.f, below_drewN h.B n⟩
theorem cell_set2 (w : World) (g b i : Nat) (u v : Value) (h : b ≠ g) : ((w.setCell ⟨g, 0, none⟩ u).setCell ⟨g, 1, none⟩ v).cell? ⟨b, i, none⟩ = w.cell? ⟨b, i, none⟩ := by
  have h1 := World.cell?_of_block (a := ⟨b, i, none⟩) (Below.heap_setCell (w.setCell ⟨g, 0, none⟩ u) ⟨g, 1, none⟩ v b h)
  have h2 := World.cell?_of_block (a := ⟨b, i, none⟩) (Below.heap_setCell w ⟨g, 0, none⟩ u b h)
  rw [h1, h2]
def turnW (w : World) (x y : Nat) : World := (w.alloc (.cells #[.int .u64 (x : Nat), .int .u64 (y : Nat)] 44)).alloc (.cells #[.int .u64 0, .int .u64 0] 44)
theorem turnM_new (w : World) (x y : Nat) : TurnM w w.heap.size x y (turnW w x y) := by
  unfold turnW
  refine ⟨by simp, ?_, ?_, ?_, ?_, ?_, ((Below.refl _ _).alloced).alloced⟩
  · rw [World.cell?_alloc_lt _ _ _ (by simp), World.cell?_alloc_at _ _ _ _ rfl]; rfl
  · rw [World.cell?_alloc_lt _ _ _ (by simp), World.cell?_alloc_at _ _ _ _ rfl]; rfl
  · rw [World.cell?_alloc_at _ _ _ _ (by simp)]; rfl
  · rw [World.cell?_alloc_at _ _ _ _ (by simp)]; rfl
  · intro i; exact newf _ _ _ _ _ (by simp)
set_option maxRecDepth 20000 in
theorem turn_any (x y v : Nat) (hx : x < 4294967296) (hy : y < 4294967296) (hy0 : 0 < y) (hv : v < 4294967296) (w : World) :
    Calls Try.prog 18 #[partV x y, .int .u64 (v : Nat)] w fun e w' => e = .returned (partV (x * v % y / Nat.gcd (x * v % y) y) (y / Nat.gcd (x * v % y) y)) ∧ Below w.heap.size w w' := by
  have hxv : x * v < 4294967296 * 4294967296 := Nat.mul_lt_mul'' hx hv
  have HMU := Lib.hid fun W => mul64_any x v hx hv W
  have hry := Nat.mod_lt (x * v) hy0
  have HRE := Lib.hid fun W => rem64_any (x * v) y (x * v % y) (by omega) hy0 (by omega) rfl W
  have HLO := Lib.hid fun W => lowest_any (x * v % y) y (by omega) (by omega) hy0 W
  have hM := Lib.hid (turnM_new w x y)
  unfold turnW at hM
  clear hxv hry hx hy hv
  generalize x * v % y / Nat.gcd (x * v % y) y = p at *
  generalize y / Nat.gcd (x * v % y) y = q at *
  generalize x * v % y = r at *
  generalize x * v = z at *
  unfold partV at HLO ⊢
  go_enter Try.func18, Try.ntmps18
  go_upto_region 2 with (first | (go_at_call 28; refine (HMU.out _).mono ?_; rintro e w1 ⟨rfl, rfl⟩))
  generalize (w.alloc (.cells #[.int .u64 (x : Nat), .int .u64 (y : Nat)] 44)).alloc (.cells #[.int .u64 0, .int .u64 0] 44) = w2 at *
  obtain ⟨x0, x1, x2, x3, x4, x5, x6⟩ := hM.out
  have x7 := x5 0
  have x8 := x5 1
  clear x5 x6
  go_region_held3 (fun W => W.cell? ⟨w.heap.size, 1, none⟩ = some (.int .u64 (y : Nat))) (first | assumption | exact x2 | exact y2 | (rw [cell_set2 _ _ _ _ _ _ (Nat.ne_of_lt (Nat.lt_succ_self _))]; exact y2)) (first | (go_at_call 29; refine (HRE.out _).mono ?_; rintro e w1 ⟨n, rfl, rfl⟩) | (go_at_call 12; refine (HLO.out _).mono ?_; rintro e w3 ⟨rfl, B3⟩; have M3 := Lib.hid ((hM.out.drewN _).on B3); obtain ⟨y0, y1, y2, y3, y4, y5, y6⟩ := M3.out; have y7 := y5 0; have y8 := y5 1; clear y5 y6))
  all_goals
    go_wp2
    have hin := two_set w3 (w.heap.size + 1) (.int .u64 (p : Nat)) (.int .u64 (q : Nat)) _ _ y3 y4
    have HB := Lib.hid (M3.out.B.trans (hin.2.2 w.heap.size (by omega)))
    obtain ⟨r0, r1, _⟩ := hin
    generalize (w3.setCell ⟨w.heap.size + 1, 0, none⟩ (.int .u64 (p : Nat))).setCell ⟨w.heap.size + 1, 1, none⟩ (.int .u64 (q : Nat)) = w9 at *
    refine bodyPost_ret (by simp [results, Try.results18, go_sem, r0, r1]; try rfl) rfl ?_
    exact ⟨rfl, HB.out⟩
end Go.Proofs.Ytacpakmglmfgnaa
