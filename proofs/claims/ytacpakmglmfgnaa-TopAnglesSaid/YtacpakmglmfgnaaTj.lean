/-
  The walks of the two functions that tell preperiod and period; moebius.
-/
import Derived.Test.YtacpakmglmfgnaaTi
namespace Go.Proofs.Ytacpakmglmfgnaa
open Go.RowKit

/-- Where the common divisors are taken out. -/
structure PreAt (den d f D P : Nat) : Prop where
  pos : 0 < D
  le : D ≤ f
  bd : P + D ≤ den
  eq1 : P + (preF d f D).1 = (preF d den den).1
  eq2 : (preF d f D).2 = (preF d den den).2
theorem PreAt.start {den d : Nat} (h : 0 < den) : PreAt den d den den 0 := ⟨h, Nat.le_refl _, by omega, by omega, rfl⟩
theorem PreAt.step {den d f D P : Nat} (h : PreAt den d f D P) (hg : ¬ Nat.gcd D d = 1) : ∃ f', PreAt den d f' (D / Nat.gcd D d) (P + 1) := by
  have h1 := h.pos
  have h2 := h.le
  obtain ⟨f', rfl⟩ : ∃ f', f = f' + 1 := ⟨f - 1, by omega⟩
  have e1 := h.eq1
  have e2 := h.eq2
  unfold preF at e1 e2
  rw [if_neg hg] at e1 e2
  have hgp : 0 < Nat.gcd D d := Nat.gcd_pos_of_pos_left _ h1
  have hlt : D / Nat.gcd D d < D := Nat.div_lt_self h1 (by omega)
  have hbd := h.bd
  have hpos : 0 < D / Nat.gcd D d := Nat.div_pos (Nat.le_of_dvd h1 (Nat.gcd_dvd_left _ _)) hgp
  have k1 : (preF d f' (D / Nat.gcd D d)).1 + 1 + P = (preF d den den).1 := by
    rw [Nat.add_comm, e1]; conv => rhs; unfold preF
  have k2 : (preF d f' (D / Nat.gcd D d)).2 = (preF d den den).2 := by rw [e2]; conv => rhs; unfold preF
  exact ⟨f', hpos, by omega, by omega, by omega, k2⟩
theorem PreAt.stop {den d f D P : Nat} (h : PreAt den d f D P) (hg : Nat.gcd D d = 1) : kindA den d = (P, ordA D d) := by
  have h1 := h.pos
  have h2 := h.le
  obtain ⟨f', rfl⟩ : ∃ f', f = f' + 1 := ⟨f - 1, by omega⟩
  have e1 := h.eq1
  have e2 := h.eq2
  have k1 : preF d (f' + 1) D = (0, D) := by unfold preF; rw [if_pos hg]
  rw [k1] at e1 e2
  unfold kindA
  rw [← e1, ← e2]
  rfl
set_option maxRecDepth 20000 in
theorem kind_any (den d : Nat) (hden : 0 < den) (hden2 : den ≤ 3000) (hd : 0 < d) (hd2 : d ≤ 64) (w : World) :
    Calls Try.prog 15 #[.int .u64 (den : Nat), .int .u64 (d : Nat)] w fun e w' => e = .returned (.tuple #[.int .i64 ((kindA den d).1 : Nat), .int .i64 ((kindA den d).2 : Nat)]) ∧ Below w.heap.size w w' := by
  have HS := Lib.hid (PreAt.start (d := d) hden)
  go_enter Try.func15, Try.ntmps15
  go_wp2
  go_loopw [0, 4] (fun vd vp wr => ∃ f D P : Nat, D ≤ 3000 ∧ P ≤ 3000 ∧ vd = .int .u64 (D : Int) ∧ vp = .int .i64 (P : Int) ∧ Hid (PreAt den d f D P) ∧ Hid (Below w.heap.size w wr)) (fun vd _ _ => (intOf vd).toNat)
  case atStart => exact ⟨den, den, 0, hden2, by omega, rfl, rfl, HS, Below.refl _ _⟩
  case round =>
    obtain ⟨f, D, P, hD, hP, rfl, rfl, HP, HB⟩ := hrel
    clear HS
    have hp := HP.out.pos
    have HG := Lib.hid fun W => gcd_any D d (by omega) (by omega) W
    have hgp : 0 < Nat.gcd D d := Nat.gcd_pos_of_pos_left _ hp
    have hgl : Nat.gcd D d ≤ D := Nat.gcd_le_left _ hp
    by_cases hg : Nat.gcd D d = 1
    · have HK := Lib.hid (HP.out.stop hg)
      have HO := Lib.hid fun W => order_any D d hp hD hd hd2 W
      rw [hg] at HG
      clear hg hgp hgl
      go_wp2_with (first | (go_at_call 23; refine (HG.out _).mono ?_; rintro e w1 ⟨n1, rfl, rfl⟩) | (go_at_call 26; refine (HO.out _).mono ?_; rintro e w2 ⟨rfl, B2⟩))
      have BF := Lib.hid ((below_drewN HB.out n1).on B2)
      go_ret2
      exact ⟨by rw [HK.out]; rfl, BF.out⟩
    · obtain ⟨f', hs⟩ := HP.out.step hg
      have HS := Lib.hid hs
      have hb := hs.bd
      have hpos := hs.pos
      have hlt : D / Nat.gcd D d < D := Nat.div_lt_self hp (by omega)
      clear hs
      generalize Nat.gcd D d = g at *
      have hgz : ((g : Int) == 1) = false := by rw [beq_eq_false_iff_ne]; omega
      have hgn : ¬ (g : Int) = 1 := by omega
      have hg0 : ((g : Int) == 0) = false := by rw [beq_eq_false_iff_ne]; omega
      have hg1 : ¬ (g : Int) = 0 := by omega
      obtain ⟨q, hq⟩ : ∃ q, D / g = q := ⟨_, rfl⟩
      have hq2 : (D : Int) / g = q := by rw [← hq]; rfl
      rw [hq] at HS hb hlt hpos
      clear hq hg HP
      go_wp2_with (first | (go_at_call 23; refine (HG.out _).mono ?_; rintro e w1 ⟨n1, rfl, rfl⟩))
      go_roundw
      case rel => exact ⟨f', q, P + 1, by omega, by omega, by first | rfl | go_num, by go_num, HS, below_drewN HB.out _⟩
      case measure => simp [intOf]; omega
end Go.Proofs.Ytacpakmglmfgnaa
