/-
  The walks of may, key and Run.
-/
import Derived.Test.YtinlachbnflpoaaOe
import Derived.Deep.RegionLaw
import Derived.BigRegion
namespace Go.Proofs.Ytinlachbnflpoaa
open Go.RowKit

theorem may_any {b1 c1 b2 c2 z : Nat} {L1 L2 : List (Nat × Nat)} (w : World) (h : MapOk w b1 c1 L1 b2 c2 L2) (hz : Fi z) :
    Calls Try.prog 7 #[.agg #[.slice (some ⟨b1, 0, none⟩) L1.length c1, .slice (some ⟨b2, 0, none⟩) L2.length c2], .agg #[.complex .f64 z 0, .bool false]] w fun e w' => e = .returned (.bool true) ∧ Below w.heap.size w w' := by
  have hb := ((Below.refl w.heap.size w).alloced (o := .cells #[.slice (some ⟨b1, 0, none⟩) L1.length c1, .slice (some ⟨b2, 0, none⟩) L2.length c2] 27)).alloced (o := .cells #[.complex .f64 z 0, .bool false] 36)
  have HB0 := Lib.hid hb
  have HCK := Lib.hid (mcheck_any _ (h.below hb))
  have HIP := Lib.hid fun W => ispoint_fin z 0 hz fi_zero W
  have hx0 : ((w.alloc (.cells #[.slice (some ⟨b1, 0, none⟩) L1.length c1, .slice (some ⟨b2, 0, none⟩) L2.length c2] 27)).alloc (.cells #[.complex .f64 z 0, .bool false] 36)).cell? ⟨w.heap.size + 1, 0, none⟩ = some (.complex .f64 z 0) := by
    rw [World.cell?_alloc_at _ _ _ _ (by simp)]; rfl
  have hx1 : ((w.alloc (.cells #[.slice (some ⟨b1, 0, none⟩) L1.length c1, .slice (some ⟨b2, 0, none⟩) L2.length c2] 27)).alloc (.cells #[.complex .f64 z 0, .bool false] 36)).cell? ⟨w.heap.size + 1, 1, none⟩ = some (.bool false) := by
    rw [World.cell?_alloc_at _ _ _ _ (by simp)]; rfl
  have hsz : w.heap.size + 1 < ((w.alloc (.cells #[.slice (some ⟨b1, 0, none⟩) L1.length c1, .slice (some ⟨b2, 0, none⟩) L2.length c2] 27)).alloc (.cells #[.complex .f64 z 0, .bool false] 36)).heap.size := by simp
  have HX0 := Lib.hid hx0
  have HX1 := Lib.hid hx1
  have HSZ := Lib.hid hsz
  clear h hz hb hx0 hx1 hsz
  go_enter Try.func7, Try.ntmps7
  go_wp2_with (first | (go_at_call 11; with_reducible refine HCK.out.mono ?_; rintro e w1 ⟨rfl, B1⟩; have hbx := (B1.cell (p := ⟨w.heap.size + 1, 0, none⟩) HSZ.out).trans HX0.out; have hby := (B1.cell (p := ⟨w.heap.size + 1, 1, none⟩) HSZ.out).trans HX1.out) | (go_at_call 12; with_reducible refine (HIP.out _).mono ?_; rintro e w2 ⟨rfl, B2⟩))
  go_ret
  exact ⟨rfl, (HB0.out.on B1).on B2⟩
theorem key_fin (z : Nat) (w : World) :
    Calls Try.prog 8 #[.agg #[.complex .f64 z 0, .bool false]] w fun e w' => e = .returned (.agg #[.int .u64 0, .int .u64 z, .int .u64 0]) ∧ Below w.heap.size w w' := by
  go_enter Try.func8, Try.ntmps8
  go_wp2
  go_region_law (fail)
  all_goals
    go_wp2
    refine bodyPost_ret (by simp [results, Try.results8, go_sem]; try rfl) rfl ?_
    exact ⟨rfl, ((alloc_below _ _).alloced).drew⟩
theorem key_inf (w : World) :
    Calls Try.prog 8 #[.agg #[.complex .f64 0 0, .bool true]] w fun e w' => e = .returned (.agg #[.int .u64 1, .int .u64 0, .int .u64 0]) ∧ Below w.heap.size w w' := by
  go_enter Try.func8, Try.ntmps8
  go_wp2
  refine bodyPost_ret (by simp [results, Try.results8, go_sem]; try rfl) rfl ?_
  exact ⟨rfl, (alloc_below _ _).alloced⟩
end Go.Proofs.Ytinlachbnflpoaa
