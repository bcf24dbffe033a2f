/-
  The walk of exact, square.
-/
import Derived.Test.YtoihdhmgjfoclaaBo
import Derived.Test.YtoihdhmgjfoclaaBb
namespace Go.Proofs.Ytoihdhmgjfoclaa
open Go.RowKit

theorem _root_.Go.RowKit.Below.on {w0 w1 w2 : World} (h : Below w0.heap.size w0 w1) (k : Below w1.heap.size w1 w2) : Below w0.heap.size w0 w2 := h.trans (k.mono h.size)
theorem bits_or64 (x y : Nat) (hx : x < 18446744073709551616) (hy : y < 18446744073709551616) : bits .or .u64 (x : Int) (y : Int) = ((x ||| y : Nat) : Int) := by
  have h : x ||| y < 2 ^ 64 := Nat.or_lt_two_pow (by omega) (by omega)
  have key : bits .or .u64 (x : Int) (y : Int) = IntKind.u64.wrap ((BitVec.ofNat 64 x ||| BitVec.ofNat 64 y).toNat : Int) := by
    rw [← BitVec.ofInt_natCast, ← BitVec.ofInt_natCast]; rfl
  rw [key, IntKind.wrap_u64, BitVec.toNat_or, BitVec.toNat_ofNat, BitVec.toNat_ofNat, Nat.mod_eq_of_lt (a := x) (by omega), Nat.mod_eq_of_lt (a := y) (by omega)]
  omega
theorem low52 (x : Nat) (hx : x < 18446744073709551616) : bits .and .u64 (x : Int) 4503599627370495 = ((x % 4503599627370496 : Nat) : Int) := by
  rw [show (4503599627370495 : Int) = ((4503599627370495 : Nat) : Int) from rfl, bits_and64 x _ hx (by omega)]
  rw [show (4503599627370495 : Nat) = 2 ^ 52 - 1 from rfl, Nat.and_two_pow_sub_one_eq_mod]
theorem low11 (x : Nat) (hx : x < 18446744073709551616) : bits .and .u64 (x : Int) 2047 = ((x % 2048 : Nat) : Int) := by
  rw [show (2047 : Int) = ((2047 : Nat) : Int) from rfl, bits_and64 x _ hx (by omega)]
  rw [show (2047 : Nat) = 2 ^ 11 - 1 from rfl, Nat.and_two_pow_sub_one_eq_mod]
theorem low1 (x : Nat) (hx : x < 18446744073709551616) : bits .and .u64 (x : Int) 1 = ((x % 2 : Nat) : Int) := by
  rw [show (1 : Int) = ((1 : Nat) : Int) from rfl, bits_and64 x _ hx (by omega)]
  rw [show (1 : Nat) = 2 ^ 1 - 1 from rfl, Nat.and_two_pow_sub_one_eq_mod]
theorem or52 (x : Nat) (hx : x < 4503599627370496) : bits .or .u64 (x : Int) 4503599627370496 = ((x + 4503599627370496 : Nat) : Int) := by
  rw [show (4503599627370496 : Int) = ((4503599627370496 : Nat) : Int) from rfl, bits_or64 x _ (by omega) (by omega)]
  rw [show (4503599627370496 : Nat) = 2 ^ 52 from rfl, or_bit hx]

theorem or_pow (o b : Nat) (ho : o < 2 ^ b) (hb : b < 16) : bits .or .u32 (o : Int) ((2 : Int) ^ b % 4294967296) = ((o + 2 ^ b : Nat) : Int) := by
  have hp : 2 ^ b < 2 ^ 16 := Nat.pow_lt_pow_right (by omega) hb
  have e : (2 : Int) ^ b % 4294967296 = ((2 ^ b : Nat) : Int) := by
    have : (2 : Int) ^ b = ((2 ^ b : Nat) : Int) := by rw [Int.natCast_pow]; rfl
    rw [this]; omega
  rw [e, bits_or32 o (2 ^ b) (by omega) (by omega), or_bit ho]
/-- The whole number and the place. -/
def exM (x : Nat) : Nat := if x / 4503599627370496 % 2048 = 0 then x % 4503599627370496 else x % 4503599627370496 + 4503599627370496
def exE (x : Nat) : Nat := x / 4503599627370496 % 2048 - 1
theorem ex_val (x : Nat) : exM x * 2 ^ exE x = vD (x % 9223372036854775808) := by
  have hb : Ieee.double.binade = 4503599627370496 := by decide
  unfold vD valF exM exE
  rw [hb]
  have h1 : x % 9223372036854775808 / 4503599627370496 = x / 4503599627370496 % 2048 := by omega
  have h2 : x % 9223372036854775808 % 4503599627370496 = x % 4503599627370496 := by omega
  rw [h1, h2]
  by_cases h : x / 4503599627370496 % 2048 = 0
  · rw [if_pos h, if_pos (by omega), h]
    simp
    omega
  · rw [if_neg h, if_neg (by omega), Nat.add_comm]
theorem exM_lt (x : Nat) : exM x < 9007199254740992 := by
  unfold exM
  have := Nat.mod_lt x (show 0 < 4503599627370496 by omega)
  split <;> omega
theorem exE_le (x : Nat) : exE x ≤ 2046 := by unfold exE; omega

set_option maxRecDepth 20000 in
theorem exact_any (x : Nat) (hx : x < 18446744073709551616) (w : World) :
    Calls Try.prog 68 #[.float .f64 x] w (Gave (exM x * 2 ^ exE x) 133 w) := by
  obtain ⟨i0, hi0, hz0, hz1, hz2⟩ := info_parts info39
  have hMl := exM_lt x
  have hEl := exE_le x
  have e1 := low52 x hx
  have e2 : bits .and .u64 ((x : Int) / 4503599627370496) 2047 = ((x / 4503599627370496 % 2048 : Nat) : Int) := low11 (x / 4503599627370496) (by omega)
  have hm0 := Nat.mod_lt x (show 0 < 4503599627370496 by omega)
  by_cases h0 : x / 4503599627370496 % 2048 = 0
  · have a1 : exM x = x % 4503599627370496 := by unfold exM; rw [if_pos h0]
    have a2 : exE x = x / 4503599627370496 % 2048 := by unfold exE; rw [h0]
    have hez : ((exE x : Nat) : Int) ≤ 0 := by rw [a2, h0]; omega
    rw [← a1] at e1
    rw [← a2] at e2
    clear a1 a2 h0 hm0
    generalize exM x = m at *
    generalize exE x = e at *
    go_enter Try.func68, Try.ntmps68
    go_wp2_with (first | (at_make; refine wpList_make_full _ rfl _ _ 71 rfl w.heap.size 39 i0 (.int .u32 0) 1 Try.underlying71 hi0 hz0 hz1 .i64 .i64 _ _ ((e + 53) / 16 + 2) rfl rfl (by go_num) (by go_num) (by rw [hz2]; omega) (by unfold maxLen; omega) (Nat.le_refl _) ?_; intro w1 hown1 hgrow1))
    have hO : Own w w.heap.size (List.replicate ((e + 53) / 16 + 2) 0) w1 := by
      refine ⟨?_, (Below.refl _ _).grown hgrow1 (Nat.le_refl _) (fun k h => by cases h)⟩
      rw [cu_zero] at hown1
      rw [List.length_replicate]; exact hown1
    have HO := Lib.hid hO
    clear hO hown1 hgrow1 hi0 hz0 hz1 hz2 e1 e2 hx hez
    go_loopw [7] (fun vi wr => ∃ i O, i ≤ 53 ∧ vi = .int .i64 ((i : Nat) : Int) ∧ Hid (BitsAt m e ((e + 53) / 16 + 2) i O) ∧ Hid (Own w w.heap.size O wr)) (fun vi _ => 53 - (intOf vi).toNat)
    case atStart => exact ⟨0, _, Nat.zero_le _, rfl, BitsAt.start m e _, HO⟩
    case round =>
      obtain ⟨i, O, hi, rfl, HM, HW⟩ := hrel
      clear HO
      by_cases hlt : i < 53
      · have hlen := HM.out.len
        have hjl : (e + i) / 16 < O.length := by rw [hlen]; omega
        have hbit : bits .and .u64 ((m : Int) / 2 ^ i) 1 = ((m / 2 ^ i % 2 : Nat) : Int) := by
          have h := low1 (m / 2 ^ i) (Nat.lt_of_le_of_lt (Nat.div_le_self _ _) (by omega))
          rw [Int.natCast_ediv, Int.natCast_pow] at h
          exact h
        by_cases hb : m / 2 ^ i % 2 = 0
        · rw [hb] at hbit
          have HS := Lib.hid (HM.out.skip hb)
          clear hb hlen hjl HM
          go_wp2
          go_roundw
          case rel => exact ⟨i + 1, O, by omega, by go_num, HS, HW⟩
          case measure => simp [intOf]; first | done | omega
        · have hb1 : m / 2 ^ i % 2 = 1 := by omega
          rw [hb1] at hbit
          have HS := Lib.hid (HM.out.set hb1 ((e + i) / 16) ((e + i) % 16) hjl (by omega) (by omega))
          have HD := HM.out.digit ((e + i) / 16) ((e + i) % 16) hjl (by omega)
          have hcell := HW.out.cell ((e + i) / 16) hjl
          have hfz := HW.out.frozen ((e + i) / 16)
          have HST := Lib.hid fun d => HW.out.store ((e + i) / 16) d
          generalize O[(e + i) / 16] = o at *
          clear hb hb1 HM hjl hlen HW
          go_wp2
          go_roundw
          case rel =>
            refine ⟨i + 1, _, by omega, by go_num, HS, ?_⟩
            rw [or_pow o ((e + i) % 16) HD (by omega)]
            exact HST.out _
          case measure => simp [intOf]; first | done | omega
      · have hie : i = 53 := by omega
        subst hie
        go_wp2
        go_ret
        refine HW.out.gave' HM.out.lt ?_ (by rw [HM.out.len]; omega) HM.out.len
        rw [HM.out.val, Nat.mod_eq_of_lt hMl]
  · have a1 : exM x = x % 4503599627370496 + 4503599627370496 := by unfold exM; rw [if_neg h0]
    have a2 : x / 4503599627370496 % 2048 = exE x + 1 := by unfold exE; omega
    have e3 := or52 (x % 4503599627370496) hm0
    rw [← a1] at e3
    rw [a2] at e2
    generalize hmm : x % 4503599627370496 = m0 at *
    have hez : (0 : Int) < ((exE x + 1 : Nat) : Int) := by omega
    clear a1 a2 h0
    generalize exM x = m at *
    generalize exE x = e at *
    go_enter Try.func68, Try.ntmps68
    go_wp2_with (first | (at_make; refine wpList_make_full _ rfl _ _ 71 rfl w.heap.size 39 i0 (.int .u32 0) 1 Try.underlying71 hi0 hz0 hz1 .i64 .i64 _ _ ((e + 53) / 16 + 2) rfl rfl (by go_num) (by go_num) (by rw [hz2]; omega) (by unfold maxLen; omega) (Nat.le_refl _) ?_; intro w1 hown1 hgrow1))
    have hO : Own w w.heap.size (List.replicate ((e + 53) / 16 + 2) 0) w1 := by
      refine ⟨?_, (Below.refl _ _).grown hgrow1 (Nat.le_refl _) (fun k h => by cases h)⟩
      rw [cu_zero] at hown1
      rw [List.length_replicate]; exact hown1
    have HO := Lib.hid hO
    clear hO hown1 hgrow1 hi0 hz0 hz1 hz2 e1 e2 hx e3 hez hmm hm0
    go_loopw [7] (fun vi wr => ∃ i O, i ≤ 53 ∧ vi = .int .i64 ((i : Nat) : Int) ∧ Hid (BitsAt m e ((e + 53) / 16 + 2) i O) ∧ Hid (Own w w.heap.size O wr)) (fun vi _ => 53 - (intOf vi).toNat)
    case atStart => exact ⟨0, _, Nat.zero_le _, rfl, BitsAt.start m e _, HO⟩
    case round =>
      obtain ⟨i, O, hi, rfl, HM, HW⟩ := hrel
      clear HO
      by_cases hlt : i < 53
      · have hlen := HM.out.len
        have hjl : (e + i) / 16 < O.length := by rw [hlen]; omega
        have hbit : bits .and .u64 ((m : Int) / 2 ^ i) 1 = ((m / 2 ^ i % 2 : Nat) : Int) := by
          have h := low1 (m / 2 ^ i) (Nat.lt_of_le_of_lt (Nat.div_le_self _ _) (by omega))
          rw [Int.natCast_ediv, Int.natCast_pow] at h
          exact h
        by_cases hb : m / 2 ^ i % 2 = 0
        · rw [hb] at hbit
          have HS := Lib.hid (HM.out.skip hb)
          clear hb hlen hjl HM
          go_wp2
          go_roundw
          case rel => exact ⟨i + 1, O, by omega, by go_num, HS, HW⟩
          case measure => simp [intOf]; first | done | omega
        · have hb1 : m / 2 ^ i % 2 = 1 := by omega
          rw [hb1] at hbit
          have HS := Lib.hid (HM.out.set hb1 ((e + i) / 16) ((e + i) % 16) hjl (by omega) (by omega))
          have HD := HM.out.digit ((e + i) / 16) ((e + i) % 16) hjl (by omega)
          have hcell := HW.out.cell ((e + i) / 16) hjl
          have hfz := HW.out.frozen ((e + i) / 16)
          have HST := Lib.hid fun d => HW.out.store ((e + i) / 16) d
          generalize O[(e + i) / 16] = o at *
          clear hb hb1 HM hjl hlen HW
          go_wp2
          go_roundw
          case rel =>
            refine ⟨i + 1, _, by omega, by go_num, HS, ?_⟩
            rw [or_pow o ((e + i) % 16) HD (by omega)]
            exact HST.out _
          case measure => simp [intOf]; first | done | omega
      · have hie : i = 53 := by omega
        subst hie
        go_wp2
        go_ret
        refine HW.out.gave' HM.out.lt ?_ (by rw [HM.out.len]; omega) HM.out.len
        rw [HM.out.val, Nat.mod_eq_of_lt hMl]
/-- A float's digits. -/
theorem exactV_any (x : Nat) (hx : x < 18446744073709551616) (w : World) : Calls Try.prog 68 #[.float .f64 x] w (Gave (vD (x % 9223372036854775808)) 133 w) := by
  rw [← ex_val]; exact exact_any x hx w
set_option maxRecDepth 20000 in
theorem square_any (a b : Nat) (ha : a < 18446744073709551616) (hb : b < 18446744073709551616) (w : World) :
    Calls Try.prog 67 #[.complex .f64 a b] w (Gave (vD (a % 9223372036854775808) * vD (a % 9223372036854775808) + vD (b % 9223372036854775808) * vD (b % 9223372036854775808)) 268 w) := by
  have HA := Lib.hid fun W => exactV_any a ha W
  have HB := Lib.hid fun W => exactV_any b hb W
  generalize vD (a % 9223372036854775808) = x at *
  generalize vD (b % 9223372036854775808) = y at *
  clear ha hb
  go_enter Try.func67, Try.ntmps67
  go_wp2_with fail
  refine (HA.out _).mono ?_
  rintro e1 w1 ⟨b1, c1, L1, rfl, r1, v1, l1, B1⟩
  have R1 := Lib.hid r1
  have V1 := Lib.hid v1
  clear r1 v1
  go_wp2_with fail
  refine (HB.out _).mono ?_
  rintro e2 w2 ⟨b2, c2, L2, rfl, r2, v2, l2, B2⟩
  have R2 := Lib.hid r2
  have V2 := Lib.hid v2
  have R12 := Lib.hid (R1.out.below B2)
  clear r2 v2 R1
  go_wp2_with fail
  refine (times_any _ _ _ _ _ _ _ R12.out R12.out (by omega) (by omega)).mono ?_
  rintro e3 w3 ⟨b3, c3, L3, rfl, r3, v3, l3, B3⟩
  have R3 := Lib.hid r3
  have V3 := Lib.hid v3
  have R23 := Lib.hid (R2.out.below B3)
  clear r3 v3 R2 R12
  go_wp2_with fail
  refine (times_any _ _ _ _ _ _ _ R23.out R23.out (by omega) (by omega)).mono ?_
  rintro e4 w4 ⟨b4, c4, L4, rfl, r4, v4, l4, B4⟩
  have R4 := Lib.hid r4
  have V4 := Lib.hid v4
  have R34 := Lib.hid (R3.out.below B4)
  clear r4 v4 R3 R23
  go_wp2_with fail
  refine (plus_any _ _ _ _ _ _ _ R34.out R4.out (by omega) (by omega)).mono ?_
  rintro e5 w5 ⟨b5, c5, L5, rfl, r5, v5, l5, B5⟩
  have R5 := Lib.hid r5
  have V5 := Lib.hid v5
  clear r5 v5 R4 R34
  go_wp2_with fail
  go_ret
  exact ⟨b5, c5, L5, rfl, R5.out, by rw [V5.out, V3.out, V4.out, V1.out, V2.out], by omega, (((B1.on B2).on B3).on B4).on B5⟩
end Go.Proofs.Ytoihdhmgjfoclaa
