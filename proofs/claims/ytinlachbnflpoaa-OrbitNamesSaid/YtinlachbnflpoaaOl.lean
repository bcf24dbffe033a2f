/-
  The walk of lives.
-/
import Derived.Test.YtinlachbnflpoaaOk
import Derived.Test.YtinlachbnflpoaaOh
namespace Go.Proofs.Ytinlachbnflpoaa
open Go.RowKit

theorem crow_new (w : World) (L : List (Nat × Nat)) (n : Nat) (A : Array Value) (hn : n = L.length) (hA : A = (cu L).toArray) (hm : n ≤ maxLen) (t : TypeId) : CRow (w.alloc (.cells A t)) w.heap.size n L := by
  subst hn hA
  refine ⟨Nat.le_refl _, hm, by simp, fun i hi => ?_⟩
  rw [World.cell?_alloc_at _ _ _ _ rfl]
  simp [cu, hi]
theorem map1_new (w : World) : MapOk (((w.alloc (.cells #[.complex .f64 4607182418800017408 0] 23)).alloc (.cells #[.complex .f64 0 0, .complex .f64 0 0, .complex .f64 4607182418800017408 0] 23)).alloc
    (.cells #[.slice (some ⟨w.heap.size, 0, none⟩) 1 1, .slice (some ⟨w.heap.size + 1, 0, none⟩) 3 3] 27)) w.heap.size 1 (re [4607182418800017408]) (w.heap.size + 1) 3 (re [0, 0, 4607182418800017408]) := by
  have h1 := crow_new w (re [4607182418800017408]) 1 #[.complex .f64 4607182418800017408 0] rfl rfl (by decide) 23
  have h2 := crow_new (w.alloc (.cells #[.complex .f64 4607182418800017408 0] 23)) (re [0, 0, 4607182418800017408]) 3 #[.complex .f64 0 0, .complex .f64 0 0, .complex .f64 4607182418800017408 0] rfl rfl (by decide) 23
  rw [World.size_alloc] at h2
  exact ⟨(h1.below (alloc_below _ _)).below (alloc_below _ _), h2.below (alloc_below _ _), polyOk_P, polyOk_Q⟩
theorem map2_new (w : World) : MapOk ((w.alloc (.cells #[.complex .f64 4607182418800017408 0, .complex .f64 4607182418800017408 0] 23)).alloc (.cells #[.complex .f64 4607182418800017408 0] 23)) w.heap.size 2 (re [4607182418800017408, 4607182418800017408]) (w.heap.size + 1) 1 (re [4607182418800017408]) := by
  have h1 := crow_new w (re [4607182418800017408, 4607182418800017408]) 2 #[.complex .f64 4607182418800017408 0, .complex .f64 4607182418800017408 0] rfl rfl (by decide) 23
  have h2 := crow_new (w.alloc (.cells #[.complex .f64 4607182418800017408 0, .complex .f64 4607182418800017408 0] 23)) (re [4607182418800017408]) 1 #[.complex .f64 4607182418800017408 0] rfl rfl (by decide) 23
  rw [World.size_alloc] at h2
  exact ⟨h1.below (alloc_below _ _), h2, polyOk_L, polyOk_P⟩
/-- The orbit's box. -/
structure OrbB (g sb cap : Nat) (w : World) : Prop where
  lt : g < w.heap.size
  lb : sb < w.heap.size
  c0 : w.cell? ⟨g, 0, none⟩ = some (.slice (some ⟨sb, 0, none⟩) 2 cap)
  c1 : w.cell? ⟨g, 1, none⟩ = some (.int .u8 1)
  c2 : w.cell? ⟨g, 2, none⟩ = some (.int .i64 0)
  c3 : w.cell? ⟨sb, 3, none⟩ = some (.bool true)
theorem OrbB.on {g b cap : Nat} {w w1 : World} (h : OrbB g b cap w) (B : Below w.heap.size w w1) : OrbB g b cap w1 :=
  ⟨Nat.lt_of_lt_of_le h.lt B.size, Nat.lt_of_lt_of_le h.lb B.size, (B.cell (p := ⟨g, 0, none⟩) h.lt).trans h.c0, (B.cell (p := ⟨g, 1, none⟩) h.lt).trans h.c1, (B.cell (p := ⟨g, 2, none⟩) h.lt).trans h.c2, (B.cell (p := ⟨b, 3, none⟩) h.lb).trans h.c3⟩
theorem orbB_new (w : World) (b cap : Nat) (hb : b < w.heap.size) (hc : w.cell? ⟨b, 3, none⟩ = some (.bool true)) : OrbB w.heap.size b cap (w.alloc (.cells #[.slice (some ⟨b, 0, none⟩) 2 cap, .int .u8 1, .int .i64 0] 31)) := by
  refine ⟨by simp, by simp; omega, ?_, ?_, ?_, ((alloc_below w _).cell (p := ⟨b, 3, none⟩) hb).trans hc⟩
  all_goals (rw [World.cell?_alloc_at _ _ _ _ rfl]; rfl)
@[go_sem] theorem run_eq_five (w : World) : (Op.equalIn 9999 23 (.complex .f64 (fw 5) 0) (.complex .f64 4617315517961601024 0)).run Try.prog w = .ok true w := by
  have h : ∀ d : Nat, (Op.equalIn (d + 1) 23 (.complex .f64 (fw 5) 0) (.complex .f64 4617315517961601024 0)).run Try.prog w = .ok true w := fun d => by
    simp [Op.equalIn, run_underlying Try.underlying23]
    try decide +kernel
  exact h 9998
set_option maxRecDepth 100000 in
set_option maxHeartbeats 1000000 in
theorem lives_any (w : World) : Calls Try.prog 4 #[] w fun e w' => e = .returned (.bool true) ∧ Below w.heap.size w w' := by
  go_enter Try.func4, Try.ntmps4
  go_upto_region 3 with (first | (go_at_call 5; refine (run_any _ (map1_new w)).mono ?_; rintro e w1 ⟨b, cap, rfl, hc, hb, B1⟩))
  have BB := Lib.hid ((((Below.refl w.heap.size w).alloced (o := .cells #[.complex .f64 4607182418800017408 0] 23)).alloced (o := .cells #[.complex .f64 0 0, .complex .f64 0 0, .complex .f64 4607182418800017408 0] 23)).alloced (o := .cells #[.slice (some ⟨w.heap.size, 0, none⟩) 1 1, .slice (some ⟨w.heap.size + 1, 0, none⟩) 3 3] 27))
  have BC := Lib.hid ((BB.out.on B1).alloced (o := .cells #[.slice (some ⟨b, 0, none⟩) 2 cap, .int .u8 1, .int .i64 0] 31))
  have HO := Lib.hid (orbB_new w1 b cap hb hc)
  clear BB B1 hb hc
  generalize w1.alloc (.cells #[.slice (some ⟨b, 0, none⟩) 2 cap, .int .u8 1, .int .i64 0] 31) = w2 at *
  go_upto_region 4 with (first | (go_at_call 6; refine (callsIn_wide.1 (last_in 3 (by omega) _ _ _ _ _ (map2_new w2))).mono ?_; rintro e w3 ⟨rfl, B3⟩))
  have BD := Lib.hid ((((Below.refl w2.heap.size w2).alloced (o := .cells #[.complex .f64 4607182418800017408 0, .complex .f64 4607182418800017408 0] 23)).alloced (o := .cells #[.complex .f64 4607182418800017408 0] 23)).on B3)
  have HO3 := HO.out.on ((BD.out).alloced (o := .cells #[.complex .f64 (fw 5) 0, .bool false] 36))
  have BE := Lib.hid (BC.out.on ((BD.out).alloced (o := .cells #[.complex .f64 (fw 5) 0, .bool false] 36)))
  have hn0 := new0 w3 36 (.complex .f64 (fw 5) 0) (.bool false)
  have hn1 := new1 w3 36 (.complex .f64 (fw 5) 0) (.bool false)
  clear HO BD BC B3
  generalize w3.alloc (.cells #[.complex .f64 (fw 5) 0, .bool false] 36) = w4 at *
  obtain ⟨l1, l2, x1, x2, x3, x4⟩ := HO3
  go_wp2
  go_ret
  exact ⟨rfl, BE.out⟩
end Go.Proofs.Ytinlachbnflpoaa
