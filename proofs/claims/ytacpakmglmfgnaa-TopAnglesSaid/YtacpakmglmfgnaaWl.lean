/-
  Wide's whole numbers below 2^32, with signs: Mul.
-/
import Derived.Test.YtacpakmglmfgnaaWi
namespace Go.Proofs.Ytacpakmglmfgnaa
open Go.RowKit

set_option maxHeartbeats 8000000 in
set_option maxRecDepth 20000 in
theorem mul_any (z a b A B C D x y : Nat) (s t : Bool) (hxy : x * y < 4294967296) (w : World) (hz : Rec w z) (hx : IntAt A B w a s x) (hy : IntAt C D w b t y) (hB : B ≤ w.heap.size) (hD : D ≤ w.heap.size) :
    Calls Try.prog 32 #[.pointer (some ⟨z, 0, none⟩), .pointer (some ⟨a, 0, none⟩), .pointer (some ⟨b, 0, none⟩)] w fun e w' => e = .returned (.pointer (some ⟨z, 0, none⟩)) ∧ AddOk w z (sgn s x * sgn t y) w' := by
  have hs := hx.a
  have ht := hy.a
  have hzl := hz.lt
  obtain ⟨u, hu, du⟩ := hx.d
  obtain ⟨v, hv, dv⟩ := hy.d
  have HP := Lib.hid fun n => wtimes_any x y _ _ _ _ u v hxy (w.drewN n) du dv hB hD
  have es : sgn (s != t) (x * y) = sgn s x * sgn t y := by
    unfold sgn
    cases s <;> cases t <;> simp [Int.natCast_mul, Int.neg_mul, Int.mul_neg]
  have HL := Lib.hid fun n W g r neg (hB : Below w.heap.size (w.drewN n) W) (hd : Dig w.heap.size W.heap.size W r g) => laid_any z neg r g w.heap.size W.heap.size 0 W ((hz.drewN n).on hB hzl) hd (Nat.le_refl _) (hd.av (.inr hzl)) (Nat.zero_le _) (Nat.zero_le _)
  have HBW := Lib.hid fun n W W' (hB : Below w.heap.size (w.drewN n) W) (hB' : Below z W W') => (below_drewN (Below.refl z w) n).trans ((hB.mono (Nat.le_of_lt hzl)).trans hB')
  have hal : a < w.heap.size := Nat.lt_of_lt_of_le hx.lt hB
  have hbl : b < w.heap.size := Nat.lt_of_lt_of_le hy.lt hD
  have HES := Lib.hid es
  clear hx hy du dv hz es
  go_enter Try.func32, Try.ntmps32
  go_wp2
  go_region_with (first | (go_at_call 49; refine (HP.out _).mono ?_; rintro e W1 ⟨r, rfl, D1, B1⟩; have k1 := (B1.cell (p := ⟨a, 0, none⟩) hal).trans hs; have k2 := (B1.cell (p := ⟨a, 1, none⟩) hal).trans hu; have k3 := (B1.cell (p := ⟨b, 1, none⟩) hbl).trans hv; have k4 := (B1.cell (p := ⟨b, 0, none⟩) hbl).trans ht) | (go_at_call 50; refine (HL.out _ _ _ _ _ B1 D1).mono ?_; rintro e W2 ⟨rfl, I2, B2⟩))
  all_goals
    go_wp2
    go_ret
    exact ⟨rfl, add_ok I2 HES.out (HBW.out _ _ _ B1 B2)⟩
end Go.Proofs.Ytacpakmglmfgnaa
