/-
  The bounds of every number: the plain law. awake once more, with what it leaves of old memory.
-/
import Derived.Test.YtoihdhmgjfoclaaBq
import Derived.Test.YtoihdhmgjfoclaaBl
namespace Go.Proofs.Ytoihdhmgjfoclaa
open Go.RowKit

/-- The sum of the squares. -/
def sqS (a b : Nat) : Nat := vD (a % 9223372036854775808) * vD (a % 9223372036854775808) + vD (b % 9223372036854775808) * vD (b % 9223372036854775808)
structure Bnds (a b H L : Nat) : Prop where
  hi : hiO a b = some H
  lo : loO a b = some L
  hl : H ≤ iR
  ll : L < iR
  below : vD L * vD L ≤ sqS a b
  above : H < iR → sqS a b ≤ vD H * vD H
  near : 103582791429521408 ≤ szP a b → szP a b ≤ 9110782046170513408 → H < iR ∧ vD H * 281474976710656 ≤ vD L * 281474976710657

theorem eqF_rung {x y : Nat} (hx : x ≤ iR) (hy : y ≤ iR) : eqF x y = decide (x = y) := by
  unfold eqF
  rw [isN_rung hx, isN_rung hy]
  unfold iR at hx hy
  rw [key_pos (by omega), key_pos (by omega)]
  rw [Bool.eq_iff_iff]
  simp
  first | done | omega
theorem ltF_rung {x y : Nat} (hx : x ≤ iR) (hy : y ≤ iR) : ltF x y = decide (x < y) := by
  unfold ltF
  rw [isN_rung hx, isN_rung hy]
  unfold iR at hx hy
  rw [key_pos (by omega), key_pos (by omega)]
  rw [Bool.eq_iff_iff]
  simp
  first | done | omega
theorem cn_rung {x : Nat} (hx : x ≤ iR) : cn x = some x := by rw [cn_isN, isN_rung hx]; rfl
theorem kind_fin {a b : Nat} (hk : kindN a b = 0) : a % 9223372036854775808 < iR ∧ b % 9223372036854775808 < iR := by
  unfold kindN at hk
  split at hk
  · omega
  · rename_i h1
    split at hk
    · omega
    · rename_i h2
      unfold infB at h1
      unfold isN at h2
      unfold iR
      simp at h1 h2
      omega
theorem sz_cases {a b : Nat} (ha : a % 9223372036854775808 < iR) (hb : b % 9223372036854775808 < iR) :
    szQ a b ≤ szP a b ∧ szP a b < iR ∧ sqS a b = vD (szP a b) * vD (szP a b) + vD (szQ a b) * vD (szQ a b) := by
  unfold szP szQ sqS
  rw [ltF_rung (Nat.le_of_lt ha) (Nat.le_of_lt hb)]
  by_cases h : a % 9223372036854775808 < b % 9223372036854775808
  · rw [if_pos (by simpa using h), if_pos (by simpa using h)]
    exact ⟨Nat.le_of_lt h, hb, Nat.add_comm _ _⟩
  · rw [if_neg (by simpa using h), if_neg (by simpa using h)]
    exact ⟨by omega, ha, rfl⟩
theorem range_lo : 5 * cA ≤ 103582791429521408 := by decide +kernel
theorem range_hi : 9110782046170513408 + 4 * cA + 2 < iR := by decide +kernel
theorem bounds_all {a b : Nat} (hk : kindN a b = 0) : ∃ H L, Bnds a b H L := by
  obtain ⟨ha, hb⟩ := kind_fin hk
  obtain ⟨h1, h2, h3⟩ := sz_cases ha hb
  have hq : szQ a b ≤ iR := by omega
  have he : eqF (szQ a b) 0 = decide (szQ a b = 0) := eqF_rung hq (Nat.zero_le _)
  by_cases h0 : szQ a b = 0
  · have e1 : hiO a b = some (szP a b) := by unfold hiO; rw [if_pos hk, he, if_pos (by simpa using h0), cn_rung (by omega)]
    have e2 : loO a b = some (szP a b) := by unfold loO; rw [if_pos hk, he, if_pos (by simpa using h0), cn_rung (by omega)]
    rw [h0, vD_zero, Nat.mul_zero, Nat.add_zero] at h3
    exact ⟨_, _, e1, e2, Nat.le_of_lt h2, h2, by rw [h3]; exact Nat.le_refl _, fun _ => by rw [h3]; exact Nat.le_refl _, fun _ _ => ⟨h2, Nat.mul_le_mul_left _ (by omega)⟩⟩
  · obtain ⟨t, w, s, r, L, f1, c1⟩ := lo_chain h2 (Nat.pos_of_ne_zero h0) h1
    obtain ⟨t', w', s', r', H, f2, c2⟩ := hi_chain h2 (Nat.pos_of_ne_zero h0) h1
    have e1 : hiO a b = some H := by unfold hiO; rw [if_pos hk, he, if_neg (by simpa using h0), cn_rung (by omega), cn_rung hq, f2]
    have e2 : loO a b = some L := by unfold loO; rw [if_pos hk, he, if_neg (by simpa using h0), cn_rung (by omega), cn_rung hq, f1]
    refine ⟨H, L, e1, e2, c2.zl, c1.zl, by rw [h3]; exact lo_below c1, fun hz => by rw [h3]; exact hi_above c2 hz, fun r1 r2 => ?_⟩
    exact both_near c1 c2 h1 (Nat.le_trans range_lo r1) (Nat.lt_of_le_of_lt (Nat.add_le_add_right (Nat.add_le_add_right r2 _) _) range_hi)

theorem awakeB_any (w : World) :
    Calls Try.prog 19 #[] w fun e w' => e = .returned (.bool true) ∧ Below w.heap.size w w' := by
  have c1 : (FloatKind.f64.format.order 13840687554816376832 13840687554816376832 == some .eq) = true := by kernel_rfl
  have c2 : (FloatKind.f64.format.order 4621819117588971520 4621819117588971520 == some .eq) = true := by kernel_rfl
  have c3 : (FloatKind.f64.format.order 13837309855095848960 13837309855095848960 == some .eq) = true := by kernel_rfl
  have c4 : (FloatKind.f64.format.order 4616189618054758400 4616189618054758400 == some .eq) = true := by kernel_rfl
  have c5 : (FloatKind.f64.format.order 4617315517961601024 4617315517961601024 == some .eq) = true := by kernel_rfl
  have c6 : (FloatKind.f64.format.order 4620693217682128896 4620693217682128896 == some .eq) = true := by kernel_rfl
  have c7 : (eqF 9221120237041090561 9221120237041090561 && eqF 0 0) = false := by kernel_rfl
  have c8 : sameB 9221120237041090561 0 9221120237041090561 0 = true := by kernel_rfl
  have c9 : ltF 4617315517961601021 4617315517961601027 = true := hilo
  have c10 : kindN 9221120237041090561 0 = 2 := by kernel_rfl
  go_enter Try.func19, Try.ntmps19
  go_wp2_with (first | (go_at_call 82; go_in) | (go_at_call 28; refine (mul_any _ _ _ _ _).mono ?_; rintro e w' ⟨re, im, n, rfl, rfl, h1, h2⟩; obtain rfl := fv_eq h1 mul12.1; obtain rfl := fv_eq h2 mul12.2; clear h1 h2) | (go_at_call 57; refine (sq_any _ _ _).mono ?_; rintro e w' ⟨re, im, n, rfl, rfl, h1, h2⟩; obtain rfl := fv_eq h1 sq12.1; obtain rfl := fv_eq h2 sq12.2; clear h1 h2) | (go_at_call 39; refine (sum3_any _ _ rfl).mono ?_; rintro e w' ⟨n, rfl, rfl⟩) | (go_at_call 24; refine (same_any _ _ _ _ _).mono ?_; rintro e w' ⟨rfl, rfl⟩) | (go_at_call 43; refine (equal_any _ _ _ _ _).mono ?_; rintro e w' ⟨rfl, rfl⟩) | (go_at_call 15; refine (hi_any _ _ (by omega) (by omega) _).mono ?_; rintro e w' ⟨r, n, rfl, rfl, h1⟩; obtain rfl := fv_eq h1 hi34; clear h1) | (go_at_call 17; refine (lo_any _ _ (by omega) (by omega) _).mono ?_; rintro e w' ⟨r, n, rfl, rfl, h1⟩; obtain rfl := fv_eq h1 lo34; clear h1) | (go_at_call 49; refine (kind_any _ _ (by omega) (by omega) _).mono ?_; rintro e w' ⟨rfl, rfl⟩))
  go_ret
  exact ⟨ret_b (by kernel_rfl), below_drewN ((show Below w.heap.size w (w.drewN _) from below_drewN (Below.refl _ _) _).alloc (Nat.le_refl w.heap.size) _) _⟩
end Go.Proofs.Ytoihdhmgjfoclaa
