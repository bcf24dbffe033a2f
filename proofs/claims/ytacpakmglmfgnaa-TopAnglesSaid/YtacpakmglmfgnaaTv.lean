/-
  The walk of TopAngles: the input that the law asks of.
-/
import Derived.Test.YtacpakmglmfgnaaTu
import Derived.Test.YtacpakmglmfgnaaTm
namespace Go.Proofs.Ytacpakmglmfgnaa
open Go.RowKit Go.Shelf
attribute [local go_sem] Oper.semAt_some

set_option maxRecDepth 100000 in
set_option maxHeartbeats 4000000 in
theorem top_good (HMUL : MulSays) (k : Nat) (hk1 : 3 ≤ k) (n m den d : Nat) (hn : n < den) (hm : m < den) (hden : den ≤ 3000) (hd1 : 2 ≤ d) (hd2 : d ≤ 64) (w : World) :
    CallsIn Fence.wide k Try.prog 3 #[.int .i64 (n : Nat), .int .i64 (m : Nat), .int .i64 (den : Nat), .int .i64 (d : Nat)] w fun e w' => e = .returned (.bool true) ∧ Below w.heap.size w w' := by
  obtain ⟨hm0, hb0⟩ := tB_new w (den : Nat) (d : Nat)
  have HM0 := Lib.hid hm0
  have HB0 := Lib.hid hb0
  have HMK := Lib.hid fun W => make_any 1 6 (by omega) (by omega) W
  have HK := Lib.hid fun W => Kind_any 1 6 2 (by omega) (by omega) rfl (by omega) (by omega) W
  rw [kind_six] at HK
  rw [show 1 / Nat.gcd 1 6 = 1 from rfl, show 6 / Nat.gcd 1 6 = 6 from rfl] at HMK
  rw [show ((2 : Nat) : Int) = 2 from rfl] at HK
  rw [show ((1 : Nat) : Int) = 1 from rfl] at HK
  rw [show ((1 : Nat) : Int) = 1 from rfl, show ((6 : Nat) : Int) = 6 from rfl] at HMK
  unfold ratV at HMK HK
  generalize enc 1 = s1 at *
  generalize enc 6 = s6 at *
  generalize hV : topW w (den : Nat) (d : Nat) = V at *
  unfold topW at hV
  clear hb0
  have h1k : 1 ≤ k := by omega
  have e1 : ¬ (den : Int) < 1 := by omega
  have e2 : ¬ (den : Int) > 3000 := by omega
  have e3 : ¬ (d : Int) < 2 := by omega
  have e4 : ¬ (d : Int) > 64 := by omega
  have e5 : ¬ (n : Int) < 0 := by omega
  have e6 : ¬ (m : Int) < 0 := by omega
  have e7 : ¬ (n : Int) ≥ den := by omega
  have e8 : ¬ (m : Int) ≥ den := by omega
  obtain ⟨x1, x2, x3, ⟨o, x4⟩, x5⟩ := hm0
  refine callsIn_of_wp_marks Try.func3 rfl trivial ?_ rfl
  simp only [Try.ntmps3, List.size_toArray, List.length_cons, List.length_nil, Nat.reduceAdd, Nat.reduceSub, Array.replicate_succ, Array.replicate_zero, List.push_toArray, List.append_toArray, List.nil_append, List.cons_append]
  gi_upto_region 7 with (first
    | (refine ⟨trivial, ?_⟩; gi_at_call 4; refine (callsIn_wide.2 (HMK.out _)).mono ?_; rintro e w1 ⟨rfl, B1⟩; have M1 := Lib.hid (HM0.out.on B1); have BB1 := Lib.hid (HB0.out.on B1))
    | (refine ⟨trivial, ?_⟩; gi_at_call 5; refine (callsIn_wide.2 (HK.out _)).mono ?_; rintro e w2 ⟨rfl, B2⟩; have M2 := Lib.hid ((M1.out.on (alloc_below w1 (.cells #[.bool false, .string s1, .string s6] 24))).on B2); have BB2 := Lib.hid ((BB1.out.on (alloc_below w1 (.cells #[.bool false, .string s1, .string s6] 24))).on B2); clear x1 x2 x3 x4 x5; obtain ⟨x1, x2, x3, ⟨o2, x4⟩, x5⟩ := M2.out; have R2 := Lib.hid ((rec3_new w1 (.bool false) (.string s1) (.string s6) 24).on B2 (by simp))))
  have hq9 : w.heap.size + 2 < w1.heap.size := M1.out.lt
  obtain ⟨u0, r0⟩ := R2.out.r.c0
  obtain ⟨u1, r1⟩ := R2.out.r.c1
  obtain ⟨u2, r2⟩ := R2.out.c2
  have f0 := R2.out.r.f 0
  have f1 := R2.out.r.f 1
  have f2 := R2.out.r.f 2
  have HQ9 := Lib.hid R2.out.r.lt
  clear HMK HK HM0 HB0 M1 BB1 B1 B2 hV
  generalize w1.heap.size = q9 at *
  have hgp : 0 < Nat.gcd n den := Nat.gcd_pos_of_pos_right _ (by omega)
  have HMN := Lib.hid fun W => make_any n den hn (by omega) W
  have HLK := Lib.hid fun W => lawkind_any n den d hn hden hd1 hd2 W
  have hp0 := pxy_bd n den d 0 (by omega)
  have hx0 : xs n den d 0 = n := by unfold xs; rw [Nat.pow_zero, Nat.mul_one, Nat.mod_eq_of_lt hn]
  have ea : n / Nat.gcd n den = px n den d 0 := by unfold px; rw [hx0]
  have eb : den / Nat.gcd n den = py n den d 0 := by unfold py; rw [hx0]
  rw [ea, eb] at HMN
  rw [eb] at HLK
  have HKN := Lib.hid fun W => Kind_any (px n den d 0) (py n den d 0) d hp0.1 (by omega) hp0.2.2 hd1 hd2 W
  unfold ratV at HMN HKN
  generalize hes : enc (px n den d 0) = s at *
  generalize het : enc (py n den d 0) = t at *
  have HES := Lib.hid hes
  have HET := Lib.hid het
  clear hes het r0 r1 r2 f0 f1 f2
  gi_upto_region 8 with (first
    | (refine ⟨trivial, ?_⟩; gi_at_call 4; refine (callsIn_wide.2 (HMN.out _)).mono ?_; rintro e w3 ⟨rfl, B3⟩; have M3 := Lib.hid (M2.out.on B3); have BB3 := Lib.hid (BB2.out.on B3); have R3 := Lib.hid (R2.out.on B3 HQ9.out); clear x1 x2 x3 x4 x5; obtain ⟨x1, x2, x3, ⟨o3, x4⟩, x5⟩ := M3.out; obtain ⟨u3, r0⟩ := R3.out.r.c0; obtain ⟨u4, r1⟩ := R3.out.r.c1; obtain ⟨u5, r2⟩ := R3.out.c2; have f0 := R3.out.r.f 0; have f1 := R3.out.r.f 1; have f2 := R3.out.r.f 2))
  obtain ⟨hS4, hB4⟩ := TS.make M3.out R3.out hq9 s t
  have BB4 := Lib.hid (BB3.out.trans (hB4.mono (show w.heap.size ≤ q9 by omega)))
  have HS4 := Lib.hid hS4
  clear hS4 hB4 BB3 BB2 M2 M3 R2 R3 x1 x2 x3 x4 x5 r0 r1 r2 f0 f1 f2 HMN HQ9 B3
  generalize ((w3.setCell ⟨q9, 0, none⟩ (.bool false)).setCell ⟨q9, 1, none⟩ (.string s)).setCell ⟨q9, 2, none⟩ (.string t) = w4 at *
  obtain ⟨⟨x1, x2, x3, ⟨o4, x4⟩, x5⟩, y1, y2, y3, y4, y5⟩ := HS4.out
  generalize hP : (kindA (py n den d 0) d).1 = P at *
  generalize hL : (kindA (py n den d 0) d).2 = L at *
  have HP := Lib.hid hP
  have HL := Lib.hid hL
  clear hP hL
  gi_upto_region 14 with (first
    | (refine ⟨trivial, ?_⟩; gi_at_call 5; refine (callsIn_wide.2 (HKN.out _)).mono ?_; rintro e w5 ⟨rfl, B5⟩; have S5 := Lib.hid (HS4.out.on B5); have BB5 := Lib.hid (BB4.out.on B5); clear x1 x2 x3 x4 x5 y1 y2 y3 y4 y5; obtain ⟨⟨x1, x2, x3, ⟨o5, x4⟩, x5⟩, y1, y2, y3, y4, y5⟩ := S5.out)
    | (refine ⟨trivial, ?_⟩; gi_at_call 6; refine (callsIn_wide.2 (HLK.out _)).mono ?_; rintro e w6 ⟨rfl, B6⟩; have S6 := Lib.hid (S5.out.on B6); have BB6 := Lib.hid (BB5.out.on B6); clear x1 x2 x3 x4 x5 y1 y2 y3 y4 y5; obtain ⟨⟨x1, x2, x3, ⟨o6, x4⟩, x5⟩, y1, y2, y3, y4, y5⟩ := S6.out))
  rename_i K HK K1 HK1
  have HLN := Lib.hid fun W => lgcd_any n den (by omega) (by omega) W
  have HLM := Lib.hid fun W => lgcd_any m den (by omega) (by omega) W
  gi_cut [137] from 120 (fun v W => ∃ B : Bool, v = .bool B ∧ (B = true → 0 < n ∧ 0 < m ∧ Nat.gcd n den = 1 ∧ Nat.gcd m den = 1) ∧ Hid (TS w.heap.size q9 den d s t W) ∧ Hid (Below w.heap.size w W))
  case first =>
    gi_wp2_with (first
      | (refine ⟨trivial, ?_⟩; gi_at_call_has 7 n; refine (callsIn_wide.2 (HLN.out _)).mono ?_; rintro e w7 ⟨k7, rfl, rfl⟩)
      | (refine ⟨trivial, ?_⟩; gi_at_call_has 7 m; refine (callsIn_wide.2 (HLM.out _)).mono ?_; rintro e w8 ⟨k8, rfl, rfl⟩)
      | (refine ⟨trivial, ?_⟩))
    all_goals
      gi_meet
      refine ⟨_, rfl, fun h => ?_, ?_, ?_⟩
      · simp at h
        try omega
      · first | exact S6.out | exact S6.out.drewN _
      · first | exact BB6.out | exact below_drewN BB6.out _
  case rest =>
    obtain ⟨B, rfl, hB, HS7, BB7⟩ := hcut
    gi_upto_if 137 with (fail)
    gi_cut [16, 17, 18, 19, 20] from 137 (fun _ _ _ _ _ W => Hid (TS w.heap.size q9 den d s t W) ∧ Hid (Below w.heap.size w W))
    case first =>
      cases B
      · gi_wp2
        gi_meet
        exact ⟨HS7.out, BB7.out⟩
      · obtain ⟨b1, b2, b3, b4⟩ := hB rfl
        have hpy : py n den d 0 = den := by rw [← eb, b3, Nat.div_one]
        have e1 : (kindA den d).1 = P := by rw [← hpy]; exact HP.out
        have e2 : (kindA den d).2 = L := by rw [← hpy]; exact HL.out
        have HMM := Lib.hid fun W => make_any m den hm (by omega) W
        rw [b4, Nat.div_one, Nat.div_one] at HMM
        have HKM := Lib.hid fun W => Kind_any m den d hm hden b4 hd1 hd2 W
        rw [e1, e2] at HKM
        unfold ratV at HMM HKM
        generalize enc m = sm at *
        generalize enc den = sd at *
        clear x1 x2 x3 x4 x5 y1 y2 y3 y4 y5
        obtain ⟨⟨x1, x2, x3, ⟨o7, x4⟩, x5⟩, y1, y2, y3, y4, y5⟩ := HS7.out
        gi_upto_region 16 with (first
          | (refine ⟨trivial, ?_⟩; gi_at_call 4; refine (callsIn_wide.2 (HMM.out _)).mono ?_; rintro e w8 ⟨rfl, B8⟩))
        have S9 := Lib.hid (HS7.out.on (B8.alloced (o := .cells #[.bool false, .string sm, .string sd] 24)))
        have BB9 := Lib.hid (BB7.out.on (B8.alloced (o := .cells #[.bool false, .string sm, .string sd] 24)))
        have R9 := Lib.hid (RX.new w8 sm sd 24)
        clear x1 x2 x3 x4 x5 y1 y2 y3 y4 y5 B8
        generalize w8.alloc (.cells #[.bool false, .string sm, .string sd] 24) = w9 at *
        generalize w8.heap.size = b9 at *
        obtain ⟨⟨x1, x2, x3, ⟨o9, x4⟩, x5⟩, y1, y2, y3, y4, y5⟩ := S9.out
        obtain ⟨r1, r2, r3, r4⟩ := R9.out
        gi_wp2_with (first
          | (refine ⟨trivial, ?_⟩; gi_at_call 5; refine (callsIn_wide.2 (HKM.out _)).mono ?_; rintro e w10 ⟨rfl, B10⟩))
        gi_meet
        exact ⟨S9.out.on B10, BB9.out.on B10⟩
    case rest =>
      obtain ⟨HS8, BB8⟩ := hcut
      have hs := HES.out
      have ht := HET.out
      have hs8 := HS8.out
      clear HES HET HS8
      subst hs ht
      exact HK _ _ (top_mid HMUL k hk1 w.heap.size q9 n den d P L w wc hn hden hd1 hd2 HP.out HL.out hs8 BB8.out (Nat.le_refl _) _ _ _ _ _ _ _ _ _ _ _ _ _ _ _ _ _ _ _ _ _ _ _ _ _ _ _ _ _ _ _ _ _ _ _ _ _ _ _ _ _ _ _ _ _ _ _ _ _ _ _ _ _ _ _ _ _ _ _ _ _ _ _ _ _ _ _ _ _ _ _ _ _ _ _ _ _ _ _ _ _ _ _ _ _ _ _ _ _ _ _ _ _ _ _ _ _ _ _ _ _ _ _ _ _ _ _ _ _ _ _ _ _ _ _ _ _ _ _ _ _ _ _ _ _ _ _ _ _ _ _ _ _ _ _ _ _ _ _ _ _ _ _ _ _ _ _ _ _ _ _ _ _ _ _ _ _ _ _ _ _ _ _ _ _ _ _ _ _ _ _ _ _ _ _ _ _ _ _ _ _ _ _ _ _ _ _ _ _ _ _ _ _ _ _ _ _ _ _ _ _ _ _ _ _ _ _ _ _ _ _ _ _ _ _ _ _ _ _ _ _ _ _ _ _ _ _ _ _ _ _ _ _ _ _ _ _ _ _ _ _ _ _ _ _ _ _ _ _ _ _ _ _ _)
end Go.Proofs.Ytacpakmglmfgnaa
