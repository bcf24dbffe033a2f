/-
  Wide's whole numbers below 2^32, with signs: Sub, Mul, NewInt of any sign, Uint64, Exp of 2.
-/
import Derived.Test.YtacpakmglmfgnaaWi
namespace Go.Proofs.Ytacpakmglmfgnaa
open Go.RowKit

theorem addOk_on {w W : World} {z : Nat} {s : Int} (h : AddOk w z s W) : IntZ 0 W.heap.size W z s := h.i
set_option maxHeartbeats 2000000 in
set_option maxRecDepth 20000 in
theorem sub_any (z a b A B C D x y : Nat) (s t : Bool) (hxy : x + y < 4294967296) (w : World) (hz : Rec w z) (hx : IntAt A B w a s x) (hy : IntAt C D w b t y) (hB : B ≤ w.heap.size) (hD : D ≤ w.heap.size) :
    Calls Try.prog 31 #[.pointer (some ⟨z, 0, none⟩), .pointer (some ⟨a, 0, none⟩), .pointer (some ⟨b, 0, none⟩)] w fun e w' => e = .returned (.pointer (some ⟨z, 0, none⟩)) ∧ AddOk w z (sgn s x - sgn t y) w' := by
  have B0 := alloc_below w (.cells #[.bool false, .slice none 0 0] 71)
  have hs0 : (w.alloc (.cells #[.bool false, .slice none 0 0] 71)).heap.size = w.heap.size + 1 := World.size_alloc _ _
  have HN := Lib.hid (neg_any w.heap.size b C D y t _ (rec_new w (.bool false) (.slice none 0 0) 71) (hy.on B0 hD) (by omega) (.inl hD))
  have hzl := hz.lt
  have HA := Lib.hid fun W (hB' : Below w.heap.size (w.alloc (.cells #[.bool false, .slice none 0 0] 71)) W) (hy' : IntAt 0 W.heap.size W w.heap.size (!t && decide (0 < y)) y) =>
    add_any z a w.heap.size A B 0 W.heap.size x y s (!t && decide (0 < y)) hxy W ((hz.on B0 hzl).on hB' hzl) ((hx.on B0 hB).on hB' hB) hy' (Nat.le_trans (by omega) hB'.size) (Nat.le_refl _)
  have es : sgn s x + sgn (!t && decide (0 < y)) y = sgn s x - sgn t y := by
    rw [sgn_laid]; unfold sgn; cases s <;> cases t <;> simp <;> omega
  rw [es] at HA
  have HB := Lib.hid fun W W' (hB' : Below w.heap.size (w.alloc (.cells #[.bool false, .slice none 0 0] 71)) W) (hB2 : Below z W W') => ((B0.trans hB').mono (Nat.le_of_lt hzl)).trans hB2
  clear hx hy hz B0 es hs0
  go_enter Try.func31, Try.ntmps31
  go_wp2_with (first | (go_at_call 51; refine HN.out.mono ?_; rintro e w1 ⟨rfl, I1, B1⟩) | (go_at_call 34; refine (HA.out _ B1 I1).mono ?_; rintro e w2 ⟨rfl, A2⟩))
  go_ret
  exact ⟨rfl, A2.i, HB.out _ _ B1 A2.B⟩
end Go.Proofs.Ytacpakmglmfgnaa
