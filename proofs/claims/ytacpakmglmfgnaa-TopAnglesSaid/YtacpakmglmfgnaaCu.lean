/-
  count at base 2, up to ten turns: the walk.
-/
import Derived.Test.YtacpakmglmfgnaaCt
namespace Go.Proofs.Ytacpakmglmfgnaa
open Go.RowKit

def MulSays : Prop := ∀ (z a b A B C D x y : Nat) (s t : Bool) (_ : x * y < 4294967296) (w : World) (_ : Rec w z) (_ : IntAt A B w a s x) (_ : IntAt C D w b t y) (_ : B ≤ w.heap.size) (_ : D ≤ w.heap.size),
    Calls Try.prog 32 #[.pointer (some ⟨z, 0, none⟩), .pointer (some ⟨a, 0, none⟩), .pointer (some ⟨b, 0, none⟩)] w fun e w' => e = .returned (.pointer (some ⟨z, 0, none⟩)) ∧ AddOk w z (sgn s x * sgn t y) w'
/-- One round's term. -/
structure CtM (w0 : World) (sb tb : Nat) (S : Int) (W : World) : Prop where
  s : IntZ 0 tb W sb S
  B : Below w0.heap.size w0 W
  lo : w0.heap.size ≤ tb
  lt : tb ≤ W.heap.size
theorem CtM.on {w0 w w' : World} {sb tb : Nat} {S : Int} (h : CtM w0 sb tb S w) (hb : Below tb w w') : CtM w0 sb tb S w' :=
  ⟨h.s.on hb (Nat.le_refl _), h.B.trans (hb.mono h.lo), h.lo, Nat.le_trans h.lt hb.size⟩
set_option maxHeartbeats 4000000 in
set_option maxRecDepth 20000 in
theorem count_of (HMUL : MulSays) (n : Nat) (hn0 : 0 < n) (hn : n ≤ 10) (w : World) :
    Calls Try.prog 20 #[.int .i64 2, .int .i64 (n : Nat)] w fun e w' => e = .returned (.pointer (some ⟨w.heap.size, 0, none⟩)) ∧ IntZ 0 w'.heap.size w' w.heap.size (csum n n) ∧ Below w.heap.size w w' := by
  have HS0 : Hid (IntZ 0 (w.alloc (.cells #[.bool false, .slice none 0 0] 71)).heap.size (w.alloc (.cells #[.bool false, .slice none 0 0] 71)) w.heap.size 0) :=
    ⟨false, 0, ⟨Nat.zero_le _, by simp, new0 _ _ _ _, fun i => newf w _ _ _ i rfl, _, new1 _ _ _ _, .inl ⟨rfl, _, _, rfl, by unfold maxLen; omega⟩⟩, rfl⟩
  have HB0 := Lib.hid (alloc_below w (.cells #[.bool false, .slice none 0 0] 71))
  go_enter Try.func20, Try.ntmps20
  go_upto_region 3 with (fail)
  generalize w.alloc (.cells #[.bool false, .slice none 0 0] 71) = w1 at *
  go_loopw [6] (fun vi wr => ∃ j : Nat, vi = .int .i64 ((j : Int) + 1) ∧ j ≤ n ∧ Hid (IntZ 0 wr.heap.size wr w.heap.size (csum n j)) ∧ Hid (Below w.heap.size w wr)) (fun vi _ => n + 1 - (intOf vi).toNat)
  case atStart => exact ⟨0, rfl, Nat.zero_le _, HS0.out, HB0.out⟩
  case round =>
    obtain ⟨j, rfl, hj, HS, HB⟩ := hrel
    clear HS0 HB0
    have hbd := (csum_bd (n := n) (m := j) hn (by omega)).1
    by_cases hjn : j < n
    · have hjl : (j : Int) + 1 ≤ n := by omega
      have hz1 : ((j : Int) + 1 == 0) = false := by rw [beq_eq_false_iff_ne]; omega
      have hz2 : ¬ (j : Int) + 1 = 0 := by omega
      have htm : (n : Int).tmod ((j : Int) + 1) = ((n % (j + 1) : Nat) : Int) := by rw [Int.tmod_eq_emod_of_nonneg (by omega)]; rfl
      have hem : (n : Int) % ((j : Int) + 1) = ((n % (j + 1) : Nat) : Int) := rfl
      by_cases hd : n % (j + 1) = 0
      · have htq : (n : Int).tdiv ((j : Int) + 1) = ((n / (j + 1) : Nat) : Int) := by rw [Int.tdiv_eq_ediv_of_nonneg (by omega)]; rfl
        have heq : (n : Int) / ((j : Int) + 1) = ((n / (j + 1) : Nat) : Int) := rfl
        have hcs := csum_succ n j
        rw [if_pos hd] at hcs
        rw [hd] at htm hem
        have hm10 : j + 1 ≤ 10 := by omega
        have hpw : 2 ^ (j + 1) ≤ 1024 := by
          have : 2 ^ (j + 1) ≤ 2 ^ 10 := Nat.pow_le_pow_right (by omega) hm10
          simpa using this
        have hp1 : 2 ≤ 2 ^ (j + 1) := by
          have : 2 ^ 1 ≤ 2 ^ (j + 1) := Nat.pow_le_pow_right (by omega) (by omega)
          simpa using this
        have hqp : 0 < n / (j + 1) := Nat.div_pos (by omega) (by omega)
        have hql := Nat.div_le_self n (j + 1)
        have HMO := Lib.hid fun W => moebius_any (n / (j + 1)) hqp (by omega) W
        have hmu := mobL_bd (facs (n / (j + 1)))
        rw [show mobL (facs (n / (j + 1))) = mob (n / (j + 1)) from rfl] at hmu
        generalize mob (n / (j + 1)) = mu at *
        generalize n / (j + 1) = q at *
        have hpi : ((2 : Int) ^ (j + 1)) = ((2 ^ (j + 1) : Nat) : Int) := by simp
        rw [hpi] at hcs
        have HEX := Lib.hid fun z a b A B C D W hz hx hy hB hD => exp_any z a b A B C D 2 (j + 1) (by omega) (by omega) W hz hx hy hB hD
        generalize 2 ^ (j + 1) = P at *
        have hcb := (csum_bd (n := n) (m := j + 1) hn (by omega)).1
        have HCS := Lib.hid hcs
        have HN2 := Lib.hid fun W => newint_p 2 (by omega) W
        have HNm := Lib.hid fun W => newint_p (j + 1) (by omega) W
        have HN1 := Lib.hid fun W => newint_p 1 (by omega) W
        have HNu := Lib.hid fun W => newint_mu mu hmu.1 hmu.2 W
        rw [show ((2 : Nat) : Int) = 2 from rfl] at HN2
        rw [show ((1 : Nat) : Int) = 1 from rfl] at HN1
        rw [show (((j + 1 : Nat)) : Int) = (j : Int) + 1 from rfl] at HNm
        have C0 : CtM w w.heap.size wr.heap.size (csum n j) wr := ⟨HS.out, HB.out, HB.out.size, Nat.le_refl _⟩
        have HC1 := Lib.hid (C0.on (alloc_below wr (.cells #[.bool false, .slice none 0 0] 71)))
        have HR1 := Lib.hid (rec_new wr (.bool false) (.slice none 0 0) 71)
        have hta : (wr.alloc (.cells #[.bool false, .slice none 0 0] 71)).heap.size = wr.heap.size + 1 := World.size_alloc _ _
        clear hcs C0 hpi HS
        go_upto_region 7 with (first
          | (go_at_call_of 22 j; refine (HNm.out _).mono ?_; rintro e w3 ⟨p3, rfl, I3, B3⟩)
          | (go_at_call 22; refine (HN2.out _).mono ?_; rintro e w2 ⟨p2, rfl, I2, B2⟩)
          | (go_at_call 30; refine (HEX.out _ _ _ _ _ _ _ _ ((HR1.out.on B2 HR1.out.lt).on B3 (Nat.lt_of_lt_of_le HR1.out.lt B2.size)) (I2.on B3 (Nat.le_refl _)) I3 B3.size (Nat.le_refl _)).mono ?_; rintro e w4 ⟨rfl, I4, B4⟩))
        have HC4 := Lib.hid (((HC1.out.on (B2.mono (by omega))).on (B3.mono (by have := B2.size; omega))).on B4)
        have HI4 := Lib.hid I4
        clear HEX HN2 HNm I2 I3 I4 B2 B3 B4 HR1 HC1
        have HSB := Lib.hid fun b W C D (h1 : IntAt 0 W.heap.size W wr.heap.size false P) (h2 : IntAt C D W b false 1) (hD : D ≤ W.heap.size) => sub_any wr.heap.size wr.heap.size b 0 W.heap.size C D P 1 false false (by omega) W (h1.rc (Nat.le_refl _)) h1 h2 (Nat.le_refl _) hD
        rw [show sgn false P - sgn false 1 = (P : Int) - 1 from rfl] at HSB
        go_upto_region 8 with (first
          | (go_at_call 22; refine (HN1.out _).mono ?_; rintro e w5 ⟨p5, rfl, I5, B5⟩)
          | (go_at_call 31; refine (HSB.out _ _ _ _ (HI4.out.on B5 (Nat.le_refl _) |>.mono (Nat.le_refl _) B5.size) I5 (Nat.le_refl _)).mono ?_; rintro e w6 ⟨rfl, A6⟩))
        obtain ⟨n6, x6, I6, e6⟩ := A6.i
        obtain ⟨rfl, hx6⟩ := sgn_pos e6 (by omega)
        have hx6b : x6 ≤ 1023 := by omega
        have HC6 := Lib.hid ((HC4.out.on (B5.mono HC4.out.lt)).on A6.B)
        have HI6 := Lib.hid I6
        clear HSB HN1 I5 B5 HI4 HC4 A6 I6 e6
        go_upto_region 9 with (first
          | (go_at_call 33; refine (HMO.out _).mono ?_; rintro e w7 ⟨rfl, B7⟩)
          | (go_at_call 22; refine (HNu.out _).mono ?_; rintro e w8 ⟨p8, n8, y8, rfl, I8, e8, hy8, B8⟩; have I68 := (HI6.out.on B7 (Nat.le_refl _)).on B8 B7.size)
          | (go_at_call 32; refine (HMUL wr.heap.size wr.heap.size p8 _ _ _ _ x6 y8 false n8 ?_ w8 (I68.rc (Nat.le_trans B7.size B8.size)) I68 I8 (Nat.le_trans B7.size B8.size) (Nat.le_refl _)).mono ?_; (exact Nat.lt_of_le_of_lt (Nat.mul_le_mul hx6b hy8) (by omega)); rintro e w9 ⟨rfl, A9⟩))
        obtain ⟨n9, x9, I9, e9⟩ := A9.i
        have hzz : sgn false x6 * sgn n8 y8 = ((P : Int) - 1) * mu := by rw [e8]; show (x6 : Int) * mu = _; rw [hx6]
        have hmub : mu = -1 ∨ mu = 0 ∨ mu = 1 := by omega
        have hx9 : x9 ≤ 1023 := by
          refine sgn_abs (b := 1023) e9 ?_ ?_
          · rw [hzz]; rcases hmub with e | e | e <;> subst e <;> omega
          · rw [hzz]; rcases hmub with e | e | e <;> subst e <;> omega
        have HC9 := Lib.hid (((HC6.out.on (B7.mono HC6.out.lt)).on (B8.mono (Nat.le_trans HC6.out.lt B7.size))).on A9.B)
        obtain ⟨ns, xS, IS, eS⟩ := HC9.out.s
        have hxS : xS ≤ 4096 := sgn_abs (b := 4096) eS hbd.1 hbd.2
        have HAD := Lib.hid (add_any w.heap.size w.heap.size wr.heap.size 0 wr.heap.size 0 w9.heap.size xS x9 ns n9 (by omega) w9 (IS.rc HC9.out.lt) IS I9 HC9.out.lt (Nat.le_refl _))
        have hsum : sgn ns xS + sgn n9 x9 = csum n (j + 1) := by
          rw [← eS, ← e9, hzz, HCS.out, Int.mul_comm mu]
        rw [hsum] at HAD
        clear HMO HNu HMUL HI6 I8 I68 B7 B8 I9 IS e9 eS e8 hzz HC6 A9
        go_wp2_with (first | (go_at_call 34; refine HAD.out.mono ?_; rintro e w10 ⟨rfl, A10⟩))
        go_roundw
        case rel => exact ⟨j + 1, by go_num, hjn, A10.i, HC9.out.B.trans A10.B⟩
        case measure => simp [intOf]; omega
      · have hcs : csum n (j + 1) = csum n j := by rw [csum_succ, if_neg hd, Int.add_zero]
        have hnz : (((n % (j + 1) : Nat) : Int) == 0) = false := by rw [beq_eq_false_iff_ne]; omega
        have hnz2 : ¬ ((n % (j + 1) : Nat) : Int) = 0 := by omega
        have HCS := Lib.hid hcs
        generalize n % (j + 1) = q at *
        clear hd hcs
        go_wp2
        go_roundw
        case rel => exact ⟨j + 1, by go_num, hjn, by rw [HCS.out]; exact HS.out, HB.out⟩
        case measure => simp [intOf]; omega
    · have hje : j = n := by omega
      subst hje
      go_wp2
      go_ret
      exact ⟨rfl, HS.out, HB.out⟩
end Go.Proofs.Ytacpakmglmfgnaa
