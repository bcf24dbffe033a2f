/-
  The law's own kind: the walk over the orbit's numbers.
-/
import Derived.Test.YtacpakmglmfgnaaRc
namespace Go.Proofs.Ytacpakmglmfgnaa
open Go.RowKit Nat

theorem down_le (d den p : Nat) : ∀ c l, down d den p c l ≤ l := by
  intro c
  induction c with
  | zero => intro l; exact Nat.le_refl _
  | succ c ih =>
    intro l
    rw [down_succ]
    split
    · exact Nat.le_refl _
    · exact Nat.le_trans (ih _) (Nat.div_le_self _ _)
theorem downs_le (d den : Nat) : ∀ (L : List (Nat × Nat)) (l : Nat), downs d den L l ≤ l := by
  intro L
  induction L with
  | nil => intro l; exact Nat.le_refl _
  | cons x r ih => intro l; exact Nat.le_trans (ih _) (down_le d den x.1 x.2 l)
theorem ordA_le {D d : Nat} (hD : 0 < D) (hl : D ≤ 3000) : ordA D d ≤ 3000 := by
  unfold ordA
  split
  · omega
  · refine Nat.le_trans (downs_le _ _ _ _) ?_
    have := (phi_bd hD hl (facs D).length).2
    rw [List.take_length] at this
    exact this
theorem preF_fst (d : Nat) : ∀ f D, (preF d f D).1 ≤ f := by
  intro f
  induction f with
  | zero => intro D; exact Nat.le_refl _
  | succ f ih =>
    intro D
    unfold preF
    split
    · omega
    · have := ih (D / gcd D d)
      simp only
      omega
theorem kind_le {D d : Nat} (hD : 0 < D) (hl : D ≤ 3000) : (kindA D d).1 ≤ 3000 ∧ (kindA D d).2 ≤ 3000 :=
  ⟨Nat.le_trans (preF_fst d D D) hl, ordA_le (preF_pos d D D hD) (Nat.le_trans (preF_le d D D) hl)⟩
/-- The orbit's k-th number. -/
def xs (n den d k : Nat) : Nat := n * d ^ k % den
theorem xs_succ (n den d k : Nat) : xs n den d (k + 1) = xs n den d k * d % den := by
  unfold xs
  rw [Nat.pow_succ, ← Nat.mul_assoc, Nat.mod_mul_mod]
theorem xs_eq {n den d : Nat} (hden : 0 < den) (hl : den ≤ 3000) (hd : 0 < d) (hd2 : d ≤ 64) {i j : Nat} (hij : i < j) :
    xs n den d i = xs n den d j ↔ (kindA (den / gcd n den) d).1 ≤ i ∧ (kindA (den / gcd n den) d).2 ∣ j - i := by
  have hg : 0 < gcd n den := Nat.gcd_pos_of_pos_right _ hden
  have hD : 0 < den / gcd n den := Nat.div_pos (Nat.le_of_dvd hden (Nat.gcd_dvd_right _ _)) hg
  have hc : Nat.Coprime (n / gcd n den) (den / gcd n den) := Nat.coprime_div_gcd_div_gcd hg
  rw [← kind_eq hD (Nat.le_trans (Nat.div_le_self _ _) hl) hd hd2 hc hij]
  have key : ∀ k, xs n den d k = gcd n den * ((n / gcd n den) * d ^ k % (den / gcd n den)) := by
    intro k
    have := Nat.mul_mod_mul_left (gcd n den) (n / gcd n den * d ^ k) (den / gcd n den)
    rw [← Nat.mul_assoc, Nat.mul_div_cancel' (Nat.gcd_dvd_left _ _), Nat.mul_div_cancel' (Nat.gcd_dvd_right _ _)] at this
    exact this
  rw [key i, key j]
  constructor
  · intro h; exact Nat.eq_of_mul_eq_mul_left hg h
  · intro h; rw [h]
/-- What the law has seen ahead of its k-th number (from 0). -/
structure SeenAt (n den d k : Nat) (L : List Nat) : Prop where
  len : L.length = den
  old : ∀ j, j < k → L.getD (xs n den d j) 0 = j + 1
  only : ∀ y, L.getD y 0 ≠ 0 → ∃ j, j < k ∧ y = xs n den d j
theorem SeenAt.start (n den d : Nat) : SeenAt n den d 0 (List.replicate den 0) := by
  refine ⟨List.length_replicate, fun j h => by omega, fun y h => absurd ?_ h⟩
  rw [List.getD_eq_getElem?_getD, List.getElem?_replicate]
  split <;> rfl
theorem getD_set_eq {L : List Nat} {i d : Nat} (h : i < L.length) : (L.set i d).getD i 0 = d := by
  rw [List.getD_eq_getElem?_getD, List.getElem?_set_self h]; rfl
theorem SeenAt.step {n den d k : Nat} {L : List Nat} (h : SeenAt n den d k L) (hden : 0 < den) (h0 : L.getD (xs n den d k) 0 = 0) : SeenAt n den d (k + 1) (L.set (xs n den d k) (k + 1)) := by
  have hlt : xs n den d k < L.length := by rw [h.len]; exact Nat.mod_lt _ hden
  refine ⟨by rw [List.length_set]; exact h.len, fun j hj => ?_, fun y hy => ?_⟩
  · by_cases e : j = k
    · subst e; exact getD_set_eq hlt
    · have := h.old j (by omega)
      have hne : xs n den d j ≠ xs n den d k := fun e2 => by rw [e2, h0] at this; omega
      rw [getD_set_ne hne.symm]; exact this
  · by_cases e : y = xs n den d k
    · exact ⟨k, by omega, e⟩
    · rw [getD_set_ne (Ne.symm e)] at hy
      obtain ⟨j, hj, e2⟩ := h.only y hy
      exact ⟨j, by omega, e2⟩
/-- The numbers ahead of the k-th are all unlike. -/
theorem SeenAt.apart {n den d k : Nat} {L : List Nat} (h : SeenAt n den d k L) {i j : Nat} (hij : i < j) (hj : j < k) : xs n den d i ≠ xs n den d j := fun e => by
  have h1 := h.old i (by omega)
  have h2 := h.old j hj
  rw [e] at h1
  omega
/-- The law's k-th number stands within the first round. -/
theorem SeenAt.bound {n den d k : Nat} {L : List Nat} (h : SeenAt n den d k L) (hden : 0 < den) (hl : den ≤ 3000) (hd : 0 < d) (hd2 : d ≤ 64) :
    k ≤ (kindA (den / gcd n den) d).1 + (kindA (den / gcd n den) d).2 := by
  have hg : 0 < gcd n den := Nat.gcd_pos_of_pos_right _ hden
  have hD : 0 < den / gcd n den := Nat.div_pos (Nat.le_of_dvd hden (Nat.gcd_dvd_right _ _)) hg
  have hD2 : den / gcd n den ≤ 3000 := Nat.le_trans (Nat.div_le_self _ _) hl
  have hT := kind_pos hD hD2 hd hd2
  refine Nat.le_of_not_lt fun hlt => ?_
  refine h.apart (i := (kindA (den / gcd n den) d).1) (j := (kindA (den / gcd n den) d).1 + (kindA (den / gcd n den) d).2) (by omega) hlt ?_
  rw [xs_eq hden hl hd hd2 (by omega)]
  exact ⟨Nat.le_refl _, by rw [Nat.add_sub_cancel_left]; exact Nat.dvd_refl _⟩
theorem SeenAt.stop {n den d k : Nat} {L : List Nat} (h : SeenAt n den d k L) (hden : 0 < den) (hl : den ≤ 3000) (hd : 0 < d) (hd2 : d ≤ 64) (h0 : L.getD (xs n den d k) 0 ≠ 0) :
    L.getD (xs n den d k) 0 = (kindA (den / gcd n den) d).1 + 1 ∧ k = (kindA (den / gcd n den) d).1 + (kindA (den / gcd n den) d).2 := by
  obtain ⟨j, hj, e⟩ := h.only _ h0
  have hb := h.bound hden hl hd hd2
  have ho := h.old j hj
  rw [← e] at ho
  have hk := (xs_eq hden hl hd hd2 hj).1 e.symm
  have hdv := Nat.le_of_dvd (by omega) hk.2
  rw [ho]
  omega
theorem info3 : (Try.prog.info? 3).map (fun i => (i.zero, i.size, i.bytes)) = some (some (.int .i64 0), 1, 8) := by kernel_rfl
set_option maxHeartbeats 1000000 in
set_option maxRecDepth 20000 in
theorem lawkind_any (n den d : Nat) (hn : n < den) (hden2 : den ≤ 3000) (h1 : 2 ≤ d) (h2 : d ≤ 64) (w : World) :
    Calls Try.prog 6 #[.int .i64 (n : Nat), .int .i64 (den : Nat), .int .i64 (d : Nat)] w fun e w' => e = .returned (.tuple #[.int .i64 ((kindA (den / gcd n den) d).1 : Nat), .int .i64 ((kindA (den / gcd n den) d).2 : Nat)]) ∧ Below w.heap.size w w' := by
  obtain ⟨i0, hi0, hz0, hz1, hz2⟩ := info_parts info3
  have hden : 0 < den := by omega
  have HST := Lib.hid fun k L (h : SeenAt n den d k L) => h.stop hden hden2 (by omega) h2
  have HBD := Lib.hid fun k L (h : SeenAt n den d k L) => h.bound hden hden2 (by omega) h2
  have hg : 0 < gcd n den := Nat.gcd_pos_of_pos_right _ hden
  have hkl := kind_le (d := d) (D := den / gcd n den) (Nat.div_pos (Nat.le_of_dvd hden (Nat.gcd_dvd_right _ _)) hg) (Nat.le_trans (Nat.div_le_self _ _) hden2)
  generalize (kindA (den / gcd n den) d).1 = P at *
  generalize (kindA (den / gcd n den) d).2 = T at *
  clear hg
  have q1 : ((den : Int) == 0) = false := by rw [beq_eq_false_iff_ne]; omega
  have q2 : ¬ (den : Int) = 0 := by omega
  have q3 : (n : Int).tmod den = n := by rw [Int.tmod_eq_emod_of_nonneg (by omega)]; exact Int.emod_eq_of_lt (by omega) (by omega)
  have q4 : (n : Int) % den = n := Int.emod_eq_of_lt (by omega) (by omega)
  go_enter Try.func6, Try.ntmps6
  go_wp2_with (first | (at_make; refine wpList_make_full _ rfl _ _ 50 rfl w.heap.size 3 i0 (.int .i64 0) 1 Try.underlying50 hi0 hz0 hz1 .i64 .i64 _ _ den rfl rfl (by go_num) (by go_num) (by rw [hz2]; omega) (by unfold maxLen; omega) (Nat.le_refl _) ?_; intro w1 hown1 hgrow1))
  have hO : Own w 3 .i64 w.heap.size (List.replicate den 0) w1 := by
    refine ⟨?_, (Below.refl _ _).grown hgrow1 (Nat.le_refl _) (fun k h => by cases h)⟩
    rw [cu_zero] at hown1
    rw [List.length_replicate]; exact hown1
  have HO := Lib.hid hO
  have e0 : xs n den d 0 = n := by unfold xs; rw [Nat.pow_zero, Nat.mul_one, Nat.mod_eq_of_lt hn]
  have HE0 := Lib.hid e0
  clear hO hown1 hgrow1 hi0 hz0 hz1 hz2 e0
  go_loopw [9, 10] (fun vx vk wr => ∃ (k y : Nat) (L : List Nat), y < den ∧ k ≤ 6000 ∧ vx = .int .i64 (y : Int) ∧ vk = .int .i64 ((k : Int) + 1) ∧ Hid (y = xs n den d k) ∧ Hid (SeenAt n den d k L) ∧ Hid (Own w 3 .i64 w.heap.size L wr)) (fun _ vk _ => P + T + 2 - (intOf vk).toNat)
  case atStart => exact ⟨0, n, _, hn, by omega, rfl, rfl, HE0.out.symm, SeenAt.start n den d, HO.out⟩
  case round =>
    obtain ⟨k, y, L, hy, hk, rfl, rfl, HY, HS, HW⟩ := hrel
    have hyl : y < L.length := by rw [HS.out.len]; exact hy
    have hlen : L.length = den := HS.out.len
    have hcell := HW.out.cell y hyl
    have hfz := HW.out.frozen y
    have hgd := getD_lt hyl
    have HWS := Lib.hid (HW.out.store y (k + 1))
    have hbd := HBD.out k L HS.out
    by_cases h0 : L.getD y 0 = 0
    · have HN := Lib.hid (HS.out.step hden (by rw [← HY.out]; exact h0))
      have hbd2 := HBD.out (k + 1) _ HN.out
      have HNX := Lib.hid (xs_succ n den d k)
      rw [← HY.out] at HN HNX
      rw [hgd] at h0
      rw [h0] at hcell
      clear h0 hgd
      have hyd : y * d ≤ 3000 * 64 := Nat.mul_le_mul (by omega) h2
      obtain ⟨z, hz⟩ : ∃ z, z = y * d := ⟨_, rfl⟩
      have hzi : (y : Int) * d = z := by rw [hz]; simp
      rw [← hz] at hyd HNX
      have g1 : IntKind.i64.wrap (z : Int) = z := IntWalk.i64_in _ (by omega)
      have hzr := Nat.mod_lt z hden
      obtain ⟨r, hr⟩ : ∃ r, r = z % den := ⟨_, rfl⟩
      rw [← hr] at HNX hzr
      have g2 : (z : Int).tmod den = r := by rw [Int.tmod_eq_emod_of_nonneg (by omega), hr]; rfl
      have g3 : (z : Int) % den = r := by rw [hr]; rfl
      clear hz hr hlen
      go_wp2
      go_roundw
      case rel => exact ⟨k + 1, r, _, hzr, by omega, rfl, by go_num, HNX.out.symm, HN.out, HWS.out⟩
      case measure => simp [intOf]; omega
    · obtain ⟨s1, s2⟩ := HST.out k L HS.out (by rw [← HY.out]; exact h0)
      rw [← HY.out, hgd] at s1
      rw [s1] at hcell
      have hB := HW.out.below
      have HB := Lib.hid hB
      clear HY HST HBD HWS hgd h0 hB hbd
      subst s2
      have hc0 : (0 : Int) < ((P + 1 : Nat) : Int) := by omega
      have hg1 : IntKind.i64.wrap (((P + 1 : Nat) : Int) - 1) = P := by rw [IntWalk.i64_in _ (by omega)]; omega
      have hg2 : IntKind.i64.wrap (((P + T : Nat) : Int) + 1 - ((P + 1 : Nat) : Int)) = T := by rw [IntWalk.i64_in _ (by omega)]; omega
      go_wp2
      go_quiet (fail)
      go_wp2
      go_ret2
      have e : (P : Int) + T + 1 - (P + 1) = T := by omega
      exact ⟨by rw [e]; rfl, below_drewN HB.out _⟩
end Go.Proofs.Ytacpakmglmfgnaa
