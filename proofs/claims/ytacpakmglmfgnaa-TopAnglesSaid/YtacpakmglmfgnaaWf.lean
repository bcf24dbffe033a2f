/-
  Wide's whole numbers below 2^32: common, GCD.
-/
import Derived.Test.YtacpakmglmfgnaaWe
namespace Go.Proofs.Ytacpakmglmfgnaa
open Go.RowKit

theorem Rec.drewN {w : World} {b : Nat} (h : Rec w b) (n : Nat) : Rec (w.drewN n) b := ⟨h.lt, h.c0, h.c1, h.f⟩
/-- The number that a row of digits says. -/
def digV (w : World) : Value → Nat
  | .slice (some a) 1 _ => match w.cell? a with | some (.int _ z) => z.toNat | _ => 0
  | _ => 0
theorem Dig.val {A B : Nat} {w : World} {v : Value} {x : Nat} (h : Dig A B w v x) : digV w v = x := by
  rcases h with ⟨rfl, ao, cap, rfl, _⟩ | ⟨_, _, b, cap, rfl, _, _, _, _, hc⟩
  · cases ao <;> rfl
  · simp [digV, hc]
theorem Dig.zero {A B : Nat} {w : World} {v : Value} (h : Dig A B w v 0) : ∃ ao cap, v = .slice ao 0 cap ∧ cap ≤ maxLen := by
  rcases h with ⟨_, h⟩ | ⟨h, _⟩
  · exact h
  · omega
theorem Dig.pos {A B : Nat} {w : World} {v : Value} {x : Nat} (h : Dig A B w v x) (hx : x ≠ 0) : ∃ b cap, v = .slice (some ⟨b, 0, none⟩) 1 cap ∧ 1 ≤ cap ∧ cap ≤ maxLen := by
  rcases h with ⟨h, _⟩ | ⟨_, _, b, cap, e, h1, h2, _⟩
  · omega
  · exact ⟨b, cap, e, h1, h2⟩
set_option maxRecDepth 20000 in
theorem common_any (x y A z : Nat) (u v : Value) (w : World) (hu : Dig A w.heap.size w u x) (hv : Dig A w.heap.size w v y) (hA : A ≤ w.heap.size) (hzl : z < w.heap.size) (hzu : Av z u) (hzv : Av z v) :
    Calls Try.prog 55 #[u, v] w fun e w' => ∃ r, e = .returned r ∧ Dig A w'.heap.size w' r (Nat.gcd x y) ∧ Av z r ∧ Below w.heap.size w w' := by
  have HU := Lib.hid hu
  have HV := Lib.hid hv
  clear hu hv
  go_enter Try.func55, Try.ntmps55
  go_wp2
  go_loopw [0, 1] (fun p q wr => ∃ x' y', Hid (Nat.gcd x' y' = Nat.gcd x y) ∧ Hid (Dig A wr.heap.size wr p x') ∧ Hid (Dig A wr.heap.size wr q y') ∧ Hid (Av z p) ∧ Hid (Av z q) ∧ Hid (Below w.heap.size w wr)) (fun _ q wr => digV wr q)
  case atStart => exact ⟨x, y, rfl, HU.out, HV.out, hzu, hzv, Below.refl _ _⟩
  case round =>
    obtain ⟨x', y', HG, HP, HQ, HZP, HZQ, HB⟩ := hrel
    by_cases hy : y' = 0
    · subst hy
      obtain ⟨ao, cap, rfl, hcap⟩ := HQ.out.zero
      have hg := HG.out
      rw [Nat.gcd_zero_right] at hg
      go_wp2
      go_ret
      exact ⟨_, rfl, by rw [← hg]; exact HP.out, HZP.out, HB.out⟩
    · have hA2 : A ≤ wr.heap.size := Nat.le_trans hA HB.out.size
      have HO := Lib.hid (over_any x' y' A z _ _ (Nat.pos_of_ne_zero hy) wr HP.out HQ.out hA2 (Nat.lt_of_lt_of_le hzl HB.out.size) HZP.out)
      obtain ⟨b, cap, rfl, hc1, hc2⟩ := HQ.out.pos hy
      have hv1 := HQ.out.val
      go_wp2_with (first | (go_at_call 59; refine HO.out.mono ?_; rintro e w2 ⟨q, r, rfl, D1, A1, B1⟩))
      go_roundw
      case rel => exact ⟨y', x' % y', (by rw [Nat.gcd_comm, ← Nat.gcd_rec, Nat.gcd_comm]; exact HG.out), (HQ.out.on B1 (Nat.le_refl _)).mono (Nat.le_refl _) B1.size, D1, HZQ.out, A1, HB.out.on B1⟩
      case measure => rw [D1.val, hv1]; exact Nat.mod_lt _ (Nat.pos_of_ne_zero hy)
set_option maxRecDepth 20000 in
theorem wGCD_any (x y z a b A B C D : Nat) (w : World) (hz : Rec w z) (hx : IntAt A B w a false x) (hy : IntAt C D w b false y) (hB : B ≤ w.heap.size) (hD : D ≤ w.heap.size) (hzx : B ≤ z ∨ z < A) (hzy : D ≤ z ∨ z < C) :
    Calls Try.prog 39 #[.pointer (some ⟨z, 0, none⟩), .pointer none, .pointer none, .pointer (some ⟨a, 0, none⟩), .pointer (some ⟨b, 0, none⟩)] w fun e w' => e = .returned (.pointer (some ⟨z, 0, none⟩)) ∧ IntAt 0 w'.heap.size w' z false (Nat.gcd x y) ∧ Below z w w' := by
  obtain ⟨u, hu, du⟩ := hx.d
  obtain ⟨v, hv, dv⟩ := hy.d
  have hzl := hz.lt
  have HC := Lib.hid fun n => common_any x y 0 z u v (w.drewN n) ((du.drewN n).mono (Nat.zero_le _) hB) ((dv.drewN n).mono (Nat.zero_le _) hD) (Nat.zero_le _) hzl (du.av hzx) (dv.av hzy)
  have HZ := Lib.hid hz
  have HL := Lib.hid fun v g B W (h : Rec W z) (hd : Dig 0 B W v g) (hB : B ≤ W.heap.size) (ha : Av z v) => laid_full z false v g 0 B 0 W h hd hB ha (Nat.zero_le _) (Nat.zero_le _)
  have hal := Nat.lt_of_lt_of_le hx.lt hB
  have hbl := Nat.lt_of_lt_of_le hy.lt hD
  have haz : a ≠ z := by have := hx.ge; have := hx.lt; omega
  have hbz : b ≠ z := by have := hy.ge; have := hy.lt; omega
  clear hx hy du dv hz hzx hzy
  go_enter Try.func39, Try.ntmps39
  go_wp2
  go_region_held3 (fun W => W.cell? ⟨a, 1, none⟩ = some u ∧ W.cell? ⟨b, 1, none⟩ = some v) (exact ⟨by assumption, by assumption⟩) (first | (go_at_call 55; refine (HC.out _).mono ?_; rintro e w2 ⟨r, rfl, D1, A1, B1⟩; have k1 := (B1.cell (p := ⟨a, 1, none⟩) hal).trans hu; have k2 := (B1.cell (p := ⟨b, 1, none⟩) hbl).trans hv; have R1 := (HZ.out.drewN _).on B1 hzl) | (go_at_call 50; refine (HL.out _ _ _ _ R1 D1 (Nat.le_refl _) A1).mono ?_; rintro e w3 ⟨rfl, I1, B2, K2⟩; have k3 := (K2 a 1 haz).trans k1; have k4 := (K2 b 1 hbz).trans k2))
  all_goals
    go_wp2
    go_ret
    exact ⟨rfl, I1, (below_drewN (Below.refl _ _) _).trans ((B1.mono (Nat.le_of_lt hzl)).trans B2)⟩
end Go.Proofs.Ytacpakmglmfgnaa
