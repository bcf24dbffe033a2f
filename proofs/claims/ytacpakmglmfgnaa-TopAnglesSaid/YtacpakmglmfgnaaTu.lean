/-
  The walk of TopAngles: what the law asks nothing of.
-/
import Derived.Test.YtacpakmglmfgnaaTt
namespace Go.Proofs.Ytacpakmglmfgnaa
open Go.RowKit Go.Shelf
attribute [local go_sem] Oper.semAt_some

set_option maxRecDepth 100000 in
set_option maxHeartbeats 4000000 in
theorem top_bad (k : Nat) (hk1 : 1 ≤ k) (n m den d : Int) (hbad : den < 1 ∨ 3000 < den ∨ d < 2 ∨ 64 < d ∨ n < 0 ∨ m < 0 ∨ den ≤ n ∨ den ≤ m) (w : World) :
    CallsIn Fence.wide k Try.prog 3 #[.int .i64 n, .int .i64 m, .int .i64 den, .int .i64 d] w fun e w' => e = .returned (.bool true) ∧ Below w.heap.size w w' := by
  obtain ⟨hm0, hb0⟩ := tB_new w den d
  have HM0 := Lib.hid hm0
  have HB0 := Lib.hid hb0
  have HW : Hid (topW w den d = _) := rfl
  have HMK := Lib.hid fun W => make_any 1 6 (by omega) (by omega) W
  have HK := Lib.hid fun W => Kind_any 1 6 2 (by omega) (by omega) rfl (by omega) (by omega) W
  rw [kind_six] at HK
  rw [show 1 / Nat.gcd 1 6 = 1 from rfl, show 6 / Nat.gcd 1 6 = 6 from rfl] at HMK
  rw [show ((2 : Nat) : Int) = 2 from rfl] at HK
  rw [show ((1 : Nat) : Int) = 1 from rfl] at HK
  rw [show ((1 : Nat) : Int) = 1 from rfl, show ((6 : Nat) : Int) = 6 from rfl] at HMK
  unfold ratV at HMK HK
  generalize enc 1 = s1 at *
  generalize enc 6 = s6 at *
  generalize hV : topW w den d = V at *
  unfold topW at hV
  clear hb0
  obtain ⟨x1, x2, x3, ⟨o, x4⟩, x5⟩ := hm0
  refine callsIn_of_wp_marks Try.func3 rfl trivial ?_ rfl
  simp only [Try.ntmps3, List.size_toArray, List.length_cons, List.length_nil, Nat.reduceAdd, Nat.reduceSub, Array.replicate_succ, Array.replicate_zero, List.push_toArray, List.append_toArray, List.nil_append, List.cons_append]
  gi_wp2_with (first
    | (refine ⟨trivial, ?_⟩; gi_at_call 4; refine (callsIn_wide.2 (HMK.out _)).mono ?_; rintro e w1 ⟨rfl, B1⟩; have M1 := Lib.hid (HM0.out.on B1); have BB1 := Lib.hid (HB0.out.on B1))
    | (refine ⟨trivial, ?_⟩; gi_at_call 5; refine (callsIn_wide.2 (HK.out _)).mono ?_; rintro e w2 ⟨rfl, B2⟩; have M2 := Lib.hid ((M1.out.on (alloc_below w1 (.cells #[.bool false, .string s1, .string s6] 24))).on B2); have BB2 := Lib.hid ((BB1.out.on (alloc_below w1 (.cells #[.bool false, .string s1, .string s6] 24))).on B2); clear x1 x2 x3 x4 x5; obtain ⟨x1, x2, x3, ⟨o2, x4⟩, x5⟩ := M2.out))
  all_goals first
    | (exfalso; omega)
    | (have r0 := World.cell?_setCell_same w2 ⟨w.heap.size + 1 + 1, 0, none⟩ (.bool true) x4
       have hB := BB2.out.trans ((Below.refl w.heap.size w2).setCell (p := ⟨w.heap.size + 1 + 1, 0, none⟩) (by show w.heap.size ≤ w.heap.size + 1 + 1; omega) (.bool true))
       exact ⟨_, by simp [results, Try.results3, go_sem, r0]; try rfl, rfl, hB⟩)
end Go.Proofs.Ytacpakmglmfgnaa
