/-
  Wide's whole numbers below 2^32, with signs: Neg, Add, Sub, Mul.
-/
import Derived.Test.YtacpakmglmfgnaaWh
import Derived.StillTailTactics
import Derived.Deep.RegionLaw
import Derived.Deep.RegionWith
namespace Go.Proofs.Ytacpakmglmfgnaa
open Go.RowKit

/-- The whole number of a sign and a magnitude. -/
def sgn (neg : Bool) (x : Nat) : Int := if neg then -(x : Int) else x
def IntZ (A B : Nat) (w : World) (b : Nat) (z : Int) : Prop := ∃ neg x, IntAt A B w b neg x ∧ z = sgn neg x
theorem sgn_laid (neg : Bool) (x : Nat) : sgn (neg && decide (0 < x)) x = sgn neg x := by
  unfold sgn
  cases neg
  · rfl
  · by_cases h : 0 < x
    · simp [h]
    · have : x = 0 := by omega
      subst this; rfl
set_option maxHeartbeats 1000000 in
set_option maxRecDepth 20000 in
theorem neg_any (z b A B x : Nat) (neg : Bool) (w : World) (hz : Rec w z) (hx : IntAt A B w b neg x) (hB : B ≤ w.heap.size) (hzx : B ≤ z ∨ z < A) :
    Calls Try.prog 51 #[.pointer (some ⟨z, 0, none⟩), .pointer (some ⟨b, 0, none⟩)] w fun e w' => e = .returned (.pointer (some ⟨z, 0, none⟩)) ∧ IntAt 0 w'.heap.size w' z (!neg && decide (0 < x)) x ∧ Below z w w' := by
  have hc := hx.a
  obtain ⟨v, hv, dv⟩ := hx.d
  have HL := Lib.hid (laid_any z (!neg) v x A B 0 w.drew hz.drew dv hB (dv.av hzx) (Nat.zero_le _) (Nat.zero_le _))
  clear hx dv hz
  go_enter Try.func51, Try.ntmps51
  go_wp2
  go_still_tail 10, (by kernel_rfl)
  change wpList _ _ _ _ _ w.drew
  go_wp2_with (first | (go_at_call 50; refine HL.out.mono ?_; rintro e w1 ⟨rfl, I1, B1⟩))
  go_ret
  exact ⟨rfl, I1, (below_drewN (Below.refl z w) 1).trans B1⟩
/-- What add makes. -/
structure AddOk (w : World) (z : Nat) (s : Int) (W : World) : Prop where
  i : IntZ 0 W.heap.size W z s
  B : Below z w W
theorem add_ok {w w' : World} {z x : Nat} {neg : Bool} {s : Int} (h : IntAt 0 w'.heap.size w' z (neg && decide (0 < x)) x) (e : sgn neg x = s) (hB : Below z w w') : AddOk w z s w' := ⟨⟨_, _, h, by rw [sgn_laid, e]⟩, hB⟩
set_option maxHeartbeats 2000000 in
set_option maxRecDepth 20000 in
theorem add_same (z a b A B C D x y : Nat) (s t : Bool) (hxy : x + y < 4294967296) (hst : s = t) (w : World) (hz : Rec w z) (hx : IntAt A B w a s x) (hy : IntAt C D w b t y) (hB : B ≤ w.heap.size) (hD : D ≤ w.heap.size) :
    Calls Try.prog 34 #[.pointer (some ⟨z, 0, none⟩), .pointer (some ⟨a, 0, none⟩), .pointer (some ⟨b, 0, none⟩)] w fun e w' => e = .returned (.pointer (some ⟨z, 0, none⟩)) ∧ AddOk w z (sgn s x + sgn t y) w' := by
  have hs := hx.a
  have ht := hy.a
  have hzl := hz.lt
  obtain ⟨u, hu, du⟩ := hx.d
  obtain ⟨v, hv, dv⟩ := hy.d
  have HC := Lib.hid fun n => wcmp_any u v x y _ _ _ _ (w.drewN n) du dv
  have HP := Lib.hid fun n => plus_any x y _ _ _ _ u v hxy (w.drewN n) du dv hB hD
  subst hst
  have es : sgn s (x + y) = sgn s x + sgn s y := by unfold sgn; cases s <;> simp <;> omega
  have HL := Lib.hid fun n W g r neg (hB : Below w.heap.size (w.drewN n) W) (hd : Dig w.heap.size W.heap.size W r g) => laid_any z neg r g w.heap.size W.heap.size 0 W ((hz.drewN n).on hB hzl) hd (Nat.le_refl _) (hd.av (.inr hzl)) (Nat.zero_le _) (Nat.zero_le _)
  have HBW := Lib.hid fun n W W' (hB : Below w.heap.size (w.drewN n) W) (hB' : Below z W W') => (below_drewN (Below.refl z w) n).trans ((hB.mono (Nat.le_of_lt hzl)).trans hB')
  have hal : a < w.heap.size := Nat.lt_of_lt_of_le hx.lt hB
  have hbl : b < w.heap.size := Nat.lt_of_lt_of_le hy.lt hD
  clear hx hy du dv hz
  go_enter Try.func34, Try.ntmps34
  go_wp2
  go_quiet ((go_at_call 36; exact quiet_it (HC.out _)))
  go_wp2
  go_quiet (fail)
  go_wp2
  go_region_with (first | (go_at_call 52; refine (HP.out _).mono ?_; rintro e W1 ⟨r, rfl, D1, B1⟩; have k1 := (B1.cell (p := ⟨a, 0, none⟩) hal).trans hs; have k2 := (B1.cell (p := ⟨a, 1, none⟩) hal).trans hu; have k3 := (B1.cell (p := ⟨b, 1, none⟩) hbl).trans hv; have k4 := (B1.cell (p := ⟨b, 0, none⟩) hbl).trans ht) | (go_at_call 50; refine (HL.out _ _ _ _ _ B1 D1).mono ?_; rintro e W2 ⟨rfl, I2, B2⟩))
  all_goals
    go_wp2
    go_ret
    exact ⟨rfl, add_ok I2 es (HBW.out _ _ _ B1 B2)⟩
set_option maxHeartbeats 2000000 in
set_option maxRecDepth 20000 in
theorem add_lt (z a b A B C D x y : Nat) (s t : Bool) (hst : s = !t) (hlt : x < y) (w : World) (hz : Rec w z) (hx : IntAt A B w a s x) (hy : IntAt C D w b t y) (hB : B ≤ w.heap.size) (hD : D ≤ w.heap.size) :
    Calls Try.prog 34 #[.pointer (some ⟨z, 0, none⟩), .pointer (some ⟨a, 0, none⟩), .pointer (some ⟨b, 0, none⟩)] w fun e w' => e = .returned (.pointer (some ⟨z, 0, none⟩)) ∧ AddOk w z (sgn s x + sgn t y) w' := by
  have hs := hx.a
  have ht := hy.a
  have hzl := hz.lt
  obtain ⟨u, hu, du⟩ := hx.d
  obtain ⟨v, hv, dv⟩ := hy.d
  have HC := Lib.hid fun n => wcmp_any u v x y _ _ _ _ (w.drewN n) du dv
  have HP := Lib.hid fun n => less_any y x _ _ _ _ v u (Nat.le_of_lt hlt) (w.drewN n) dv du hD hB
  subst hst
  rw [cmpV_lt hlt] at HC
  have es : sgn t (y - x) = sgn (!t) x + sgn t y := by unfold sgn; cases t <;> simp <;> omega
  have hnt : ((!t) == t) = false := by cases t <;> rfl
  have HL := Lib.hid fun n W g r neg (hB : Below w.heap.size (w.drewN n) W) (hd : Dig w.heap.size W.heap.size W r g) => laid_any z neg r g w.heap.size W.heap.size 0 W ((hz.drewN n).on hB hzl) hd (Nat.le_refl _) (hd.av (.inr hzl)) (Nat.zero_le _) (Nat.zero_le _)
  have HBW := Lib.hid fun n W W' (hB : Below w.heap.size (w.drewN n) W) (hB' : Below z W W') => (below_drewN (Below.refl z w) n).trans ((hB.mono (Nat.le_of_lt hzl)).trans hB')
  have hal : a < w.heap.size := Nat.lt_of_lt_of_le hx.lt hB
  have hbl : b < w.heap.size := Nat.lt_of_lt_of_le hy.lt hD
  clear hx hy du dv hz
  go_enter Try.func34, Try.ntmps34
  go_wp2
  go_quiet ((go_at_call 36; exact quiet_it (HC.out _)))
  go_wp2
  go_quiet (fail)
  go_wp2
  go_region_with (first | (go_at_call 53; refine (HP.out _).mono ?_; rintro e W1 ⟨r, rfl, D1, B1⟩; have k1 := (B1.cell (p := ⟨a, 0, none⟩) hal).trans hs; have k2 := (B1.cell (p := ⟨a, 1, none⟩) hal).trans hu; have k3 := (B1.cell (p := ⟨b, 1, none⟩) hbl).trans hv; have k4 := (B1.cell (p := ⟨b, 0, none⟩) hbl).trans ht) | (go_at_call 50; refine (HL.out _ _ _ _ _ B1 D1).mono ?_; rintro e W2 ⟨rfl, I2, B2⟩))
  all_goals
    go_wp2
    go_ret
    exact ⟨rfl, add_ok I2 es (HBW.out _ _ _ B1 B2)⟩
set_option maxHeartbeats 2000000 in
set_option maxRecDepth 20000 in
theorem add_ge (z a b A B C D x y : Nat) (s t : Bool) (hst : t = !s) (hge : y ≤ x) (w : World) (hz : Rec w z) (hx : IntAt A B w a s x) (hy : IntAt C D w b t y) (hB : B ≤ w.heap.size) (hD : D ≤ w.heap.size) :
    Calls Try.prog 34 #[.pointer (some ⟨z, 0, none⟩), .pointer (some ⟨a, 0, none⟩), .pointer (some ⟨b, 0, none⟩)] w fun e w' => e = .returned (.pointer (some ⟨z, 0, none⟩)) ∧ AddOk w z (sgn s x + sgn t y) w' := by
  have hs := hx.a
  have ht := hy.a
  have hzl := hz.lt
  obtain ⟨u, hu, du⟩ := hx.d
  obtain ⟨v, hv, dv⟩ := hy.d
  have HC := Lib.hid fun n => wcmp_any u v x y _ _ _ _ (w.drewN n) du dv
  have HP := Lib.hid fun n => less_any x y _ _ _ _ u v hge (w.drewN n) du dv hB hD
  subst hst
  obtain ⟨c, hc0, hc1⟩ : ∃ c : Int, ¬ c < 0 ∧ cmpV x y = .int .i64 c := by
    rcases Nat.lt_or_eq_of_le hge with h | h
    · exact ⟨1, by omega, cmpV_gt h⟩
    · subst h; exact ⟨0, by omega, cmpV_eq _⟩
  rw [hc1] at HC
  clear hc1
  have es : sgn s (x - y) = sgn s x + sgn (!s) y := by unfold sgn; cases s <;> simp <;> omega
  have hnt : (s == !s) = false := by cases s <;> rfl
  have HL := Lib.hid fun n W g r neg (hB : Below w.heap.size (w.drewN n) W) (hd : Dig w.heap.size W.heap.size W r g) => laid_any z neg r g w.heap.size W.heap.size 0 W ((hz.drewN n).on hB hzl) hd (Nat.le_refl _) (hd.av (.inr hzl)) (Nat.zero_le _) (Nat.zero_le _)
  have HBW := Lib.hid fun n W W' (hB : Below w.heap.size (w.drewN n) W) (hB' : Below z W W') => (below_drewN (Below.refl z w) n).trans ((hB.mono (Nat.le_of_lt hzl)).trans hB')
  have hal : a < w.heap.size := Nat.lt_of_lt_of_le hx.lt hB
  have hbl : b < w.heap.size := Nat.lt_of_lt_of_le hy.lt hD
  clear hx hy du dv hz
  go_enter Try.func34, Try.ntmps34
  go_wp2
  go_quiet ((go_at_call 36; exact quiet_it (HC.out _)))
  go_wp2
  go_quiet (fail)
  go_wp2
  go_region_with (first | (go_at_call 53; refine (HP.out _).mono ?_; rintro e W1 ⟨r, rfl, D1, B1⟩; have k1 := (B1.cell (p := ⟨a, 0, none⟩) hal).trans hs; have k2 := (B1.cell (p := ⟨a, 1, none⟩) hal).trans hu; have k3 := (B1.cell (p := ⟨b, 1, none⟩) hbl).trans hv; have k4 := (B1.cell (p := ⟨b, 0, none⟩) hbl).trans ht) | (go_at_call 50; refine (HL.out _ _ _ _ _ B1 D1).mono ?_; rintro e W2 ⟨rfl, I2, B2⟩))
  all_goals
    go_wp2
    go_ret
    exact ⟨rfl, add_ok I2 es (HBW.out _ _ _ B1 B2)⟩
theorem add_any (z a b A B C D x y : Nat) (s t : Bool) (hxy : x + y < 4294967296) (w : World) (hz : Rec w z) (hx : IntAt A B w a s x) (hy : IntAt C D w b t y) (hB : B ≤ w.heap.size) (hD : D ≤ w.heap.size) :
    Calls Try.prog 34 #[.pointer (some ⟨z, 0, none⟩), .pointer (some ⟨a, 0, none⟩), .pointer (some ⟨b, 0, none⟩)] w fun e w' => e = .returned (.pointer (some ⟨z, 0, none⟩)) ∧ AddOk w z (sgn s x + sgn t y) w' := by
  by_cases h : s = t
  · exact add_same z a b A B C D x y s t hxy h w hz hx hy hB hD
  · have h1 : s = !t := by cases s <;> cases t <;> first | rfl | exact absurd rfl h
    have h2 : t = !s := by cases s <;> cases t <;> first | rfl | exact absurd rfl h
    rcases Nat.lt_or_ge x y with h3 | h3
    · exact add_lt z a b A B C D x y s t h1 h3 w hz hx hy hB hD
    · exact add_ge z a b A B C D x y s t h2 h3 w hz hx hy hB hD
end Go.Proofs.Ytacpakmglmfgnaa
