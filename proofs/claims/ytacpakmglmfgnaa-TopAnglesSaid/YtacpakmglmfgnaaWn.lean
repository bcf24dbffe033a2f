/-
  Wide's whole numbers: Exp of small powers.
-/
import Derived.Test.YtacpakmglmfgnaaWm
import Derived.Test.YtacpakmglmfgnaaTd
namespace Go.Proofs.Ytacpakmglmfgnaa
open Go.RowKit

/-- Powers by squaring, in the middle. -/
structure PwAt (x m k r p : Nat) : Prop where
  eq : r * p ^ k = x ^ m
  p : 0 < p
  r : 0 < r
theorem PwAt.r_le {x m k r p : Nat} (h : PwAt x m k r p) : r ≤ x ^ m := by
  rw [← h.eq]; exact Nat.le_mul_of_pos_right _ (Nat.pow_pos h.p)
theorem PwAt.odd {x m k r p : Nat} (h : PwAt x m k r p) (hk : k % 2 = 1) : r * p ≤ x ^ m ∧ PwAt x m (k - 1) (r * p) p := by
  have e : r * p * p ^ (k - 1) = x ^ m := by
    rw [← h.eq, Nat.mul_assoc, ← Nat.pow_succ']
    rw [show (k - 1).succ = k by omega]
  have h2 : PwAt x m (k - 1) (r * p) p := ⟨e, h.p, Nat.mul_pos h.r h.p⟩
  exact ⟨h2.r_le, h2⟩
theorem PwAt.sq {x m k r p : Nat} (h : PwAt x m k r p) (hk : k % 2 = 0) (h2 : 1 < k) : p * p ≤ x ^ m ∧ PwAt x m (k / 2) r (p * p) := by
  have e : r * (p * p) ^ (k / 2) = x ^ m := by
    rw [← h.eq, show p * p = p ^ 2 from (Nat.pow_two p).symm, ← Nat.pow_mul, show 2 * (k / 2) = k by omega]
  refine ⟨?_, e, Nat.mul_pos h.p h.p, h.r⟩
  rw [← h.eq]
  have h3 : p * p ≤ p ^ k := by
    rw [show p * p = p ^ 2 from (Nat.pow_two p).symm]
    exact Nat.pow_le_pow_right h.p (by omega)
  exact Nat.le_trans h3 (Nat.le_mul_of_pos_left _ h.r)
theorem one_bit (k : Nat) (h : k < 18446744073709551616) : bits .and .u64 (k : Int) 1 = ((k % 2 : Nat) : Int) := by
  have h : bits .and .u64 (k : Int) ((1 : Nat) : Int) = ((k &&& 1 : Nat) : Int) := by
    have key : bits .and .u64 (k : Int) ((1 : Nat) : Int) = IntKind.u64.wrap ((BitVec.ofNat 64 k &&& BitVec.ofNat 64 1).toNat : Int) := by
      rw [← BitVec.ofInt_natCast, ← BitVec.ofInt_natCast]; rfl
    rw [key, IntKind.wrap_u64, BitVec.toNat_and, BitVec.toNat_ofNat, BitVec.toNat_ofNat, Nat.mod_eq_of_lt (a := k) (by omega), Nat.mod_eq_of_lt (a := 1) (by omega)]
    have : k &&& 1 ≤ 1 := Nat.and_le_right
    omega
  rw [Nat.and_one_is_mod] at h
  exact h
set_option maxHeartbeats 3000000 in
set_option maxRecDepth 20000 in
theorem exp_any (z a b A B C D x m : Nat) (hx0 : 0 < x) (hxm : x ^ m < 4294967296) (w : World) (hz : Rec w z) (hx : IntAt A B w a false x) (hy : IntAt C D w b false m) (hB : B ≤ w.heap.size) (hD : D ≤ w.heap.size) :
    Calls Try.prog 30 #[.pointer (some ⟨z, 0, none⟩), .pointer (some ⟨a, 0, none⟩), .pointer (some ⟨b, 0, none⟩), .pointer none] w fun e w' => e = .returned (.pointer (some ⟨z, 0, none⟩)) ∧ IntAt 0 w'.heap.size w' z false (x ^ m) ∧ Below z w w' := by
  have ha := hx.a
  have hzl := hz.lt
  have hal := hx.lt
  obtain ⟨u, hu, du⟩ := hx.d
  have hml := hy.x_lt
  have HX := Lib.hid hx
  have HY := Lib.hid hy
  have HZ := Lib.hid hz
  have HDU := Lib.hid du
  clear hx hy hz du
  go_enter Try.func30, Try.ntmps30
  go_wp2
  go_region_held3 (fun W => W.cell? ⟨a, 1, none⟩ = some u) (first | assumption | exact ((alloc_below _ _).cell (p := ⟨a, 1, none⟩) (by show a < w.heap.size; omega)).trans hu) (fail)
  have B2 := below_drewN (alloc_below w (.cells #[.int .u32 1] 84)) 1
  have D2 : Dig w.heap.size (w.heap.size + 1) (w.alloc (.cells #[.int .u32 1] 84)).drew (.slice (some ⟨w.heap.size, 0, none⟩) 1 1) 1 :=
    .inr ⟨by omega, by omega, w.heap.size, 1, rfl, Nat.le_refl _, by unfold maxLen; omega, Nat.le_refl _, by omega, by
      have : (w.alloc (.cells #[.int .u32 1] 84)).cell? ⟨w.heap.size, 0, none⟩ = some (.int .u32 1) := by rw [World.cell?_alloc_at _ _ _ _ rfl]; rfl
      exact this⟩
  have hs2 : (w.alloc (.cells #[.int .u32 1] 84)).drew.heap.size = w.heap.size + 1 := World.size_alloc _ _
  have B2' : Below w.heap.size w (w.alloc (.cells #[.int .u32 1] 84)).drew := B2
  have HB2 := Lib.hid B2'
  have HD2 := Lib.hid D2
  have HS2 := Lib.hid hs2
  clear B2 B2' D2 hs2
  generalize (w.alloc (.cells #[.int .u32 1] 84)).drew = w2 at *
  have HUI := Lib.hid (uint64_any m C D b false w2 (HY.out.on HB2.out hD))
  have hu2 := (HB2.out.cell (p := ⟨a, 1, none⟩) (by show a < w.heap.size; omega)).trans hu
  have ha2 := (HB2.out.cell (p := ⟨a, 0, none⟩) (by show a < w.heap.size; omega)).trans ha
  clear hu ha
  go_wp2_with (first | (go_at_call 48; refine HUI.out.mono ?_; rintro e w3 ⟨n3, rfl, rfl⟩))
  have HST : Hid (PwAt x m m 1 x) := ⟨Nat.one_mul _, hx0, Nat.one_pos⟩
  go_loopw [9, 10, 11] (fun vr vp vk wr => ∃ k r p : Nat, vk = .int .u64 (k : Int) ∧ k < 4294967296 ∧ Hid (PwAt x m k r p) ∧ Hid (Dig w.heap.size wr.heap.size wr vr r) ∧ Hid (Dig 0 wr.heap.size wr vp p) ∧ Hid (Below w.heap.size w wr)) (fun _ _ vk _ => (intOf vk).toNat)
  case atStart => exact ⟨m, 1, x, rfl, hml, HST, (HD2.out.drewN n3).mono (Nat.le_refl _) (by have := HS2.out; exact Nat.le_of_eq this.symm), ((HDU.out.on HB2.out hB).drewN n3).mono (Nat.zero_le _) (Nat.le_trans hB HB2.out.size), below_drewN HB2.out n3⟩
  case round =>
    obtain ⟨k, r, p, rfl, hk, HP, HR, HQ, HB⟩ := hrel
    clear HST HDU HD2 HS2 HUI
    have hbit := one_bit k (by omega)
    have HT1 := Lib.hid fun h => wtimes_any r p _ _ _ _ _ _ h wr HR.out HQ.out (Nat.le_refl _) (Nat.le_refl _)
    rcases Nat.eq_zero_or_pos k with rfl | hk0
    · have he := HP.out.eq
      rw [Nat.pow_zero, Nat.mul_one] at he
      have HZ3 := HZ.out.on HB.out hzl
      have HL := Lib.hid (laid_any z false _ r w.heap.size _ 0 wr HZ3 HR.out (Nat.le_refl _) (HR.out.av (.inr hzl)) (Nat.zero_le _) (Nat.zero_le _))
      have ha3 := (HB.out.cell (p := ⟨a, 0, none⟩) (by show a < w.heap.size; omega)).trans HX.out.a
      have HE := Lib.hid he
      clear he HZ3
      go_wp2_with (first | (go_at_call 50; refine HL.out.mono ?_; rintro e w4 ⟨rfl, I4, B4⟩))
      go_ret
      rw [HE.out] at I4
      exact ⟨rfl, I4, (HB.out.mono (Nat.le_of_lt hzl)).trans B4⟩
    · have hk0i : (0 : Int) < k := by omega
      have hkd : (k : Int) / 2 = ((k / 2 : Nat) : Int) := rfl
      by_cases ho : k % 2 = 1
      · rw [ho] at hbit
        obtain ⟨ho1, ho2⟩ := HP.out.odd ho
        have HT1' := Lib.hid (HT1.out (by omega))
        have HO2 := Lib.hid ho2
        clear HT1 ho1 ho2
        by_cases h1 : k = 1
        · subst h1
          clear hkd hbit
          have hb1 : bits .and .u64 1 1 = 1 := one_bit 1 (by omega)
          rw [show ((1 : Nat) : Int) = 1 from rfl] at *
          go_wp2_with (first | (go_at_call 49; refine HT1'.out.mono ?_; rintro e w4 ⟨v4, rfl, D4, B4⟩))
          go_roundw
          case rel => exact ⟨0, r * p, p, by first | rfl | go_num, by omega, HO2.out, D4.mono HB.out.size (Nat.le_refl _), (HQ.out.on B4 (Nat.le_refl _)).mono (Nat.le_refl _) B4.size, HB.out.on B4⟩
          case measure => simp [intOf]; try omega
        · have hk1 : (1 : Int) < k := by omega
          obtain ⟨q1, q2⟩ := HO2.out.sq (by omega) (by omega)
          have HT2 := Lib.hid fun W (B4 : Below wr.heap.size wr W) => wtimes_any p p _ _ _ _ _ _ (by omega) W (HQ.out.on B4 (Nat.le_refl _)) (HQ.out.on B4 (Nat.le_refl _)) B4.size B4.size
          rw [show (k - 1) / 2 = k / 2 by omega] at q2
          have HQ2 := Lib.hid q2
          clear q1 q2 ho h1
          have hk2 : k / 2 < k := by omega
          generalize k / 2 = j at *
          go_upto_region 7 with (first | (go_at_call 49; refine HT1'.out.mono ?_; rintro e w4 ⟨v4, rfl, D4, B4⟩))
          go_wp2_with (first | (go_at_call 49; refine (HT2.out _ B4).mono ?_; rintro e w5 ⟨v5, rfl, D5, B5⟩))
          go_roundw
          case rel => exact ⟨j, r * p, p * p, by first | rfl | go_num, by omega, HQ2.out, (D4.mono HB.out.size (Nat.le_refl _)).on B5 (Nat.le_refl _) |>.mono (Nat.le_refl _) B5.size, D5.mono (Nat.zero_le _) (Nat.le_refl _), (HB.out.on B4).on B5⟩
          case measure => simp [intOf]; try omega
      · have ho2 : k % 2 = 0 := by omega
        rw [ho2] at hbit
        have hk1 : (1 : Int) < k := by omega
        obtain ⟨q1, q2⟩ := HP.out.sq ho2 (by omega)
        have HT2 := Lib.hid (wtimes_any p p _ _ _ _ _ _ (by omega) wr HQ.out HQ.out (Nat.le_refl _) (Nat.le_refl _))
        have HQ2 := Lib.hid q2
        clear q1 q2 ho ho2 HT1
        have hk2 : k / 2 < k := by omega
        generalize k / 2 = j at *
        go_wp2_with (first | (go_at_call 49; refine HT2.out.mono ?_; rintro e w5 ⟨v5, rfl, D5, B5⟩))
        go_roundw
        case rel => exact ⟨j, r, p * p, by first | rfl | go_num, by omega, HQ2.out, (HR.out.on B5 (Nat.le_refl _)).mono (Nat.le_refl _) B5.size, D5.mono (Nat.zero_le _) (Nat.le_refl _), HB.out.on B5⟩
        case measure => simp [intOf]; try omega
end Go.Proofs.Ytacpakmglmfgnaa
