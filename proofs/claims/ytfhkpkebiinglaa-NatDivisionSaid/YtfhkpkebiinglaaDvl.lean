/-
  The walk of div at divisors of two limbs and more.
-/
import Derived.Test.YtfhkpkebiinglaaDvp
import Derived.Test.YtfhkpkebiinglaaShelf
import Derived.Deep.RegionHeld3
import Derived.RegionTactic
import Derived.ChangeAlike
import Derived.BigRegion
import Derived.Deep.QuietTactic
import Derived.BigQuiet
import Derived.WalkMore
import Derived.Deep.LoopGhost
import Derived.Deep.CutRange
import Derived.Deep.CutBlock
import Derived.Deep.RegionLaw
namespace Go.Proofs.Ytfhkpkebiinglaa
open Go.RowKit

set_option maxRecDepth 100000 in
set_option maxHeartbeats 40000000 in
theorem div_two (aa ab : Option Addr) (ca cb : Nat) (A B : List Nat) (hA : ∀ d ∈ A, d < 4294967296) (hB : ∀ d ∈ B, d < 4294967296) (ha : A.length ≤ 4096) (hb : B.length ≤ 4096) (w : World) (rA : RowAt w .u32 aa ca A) (rB : RowAt w .u32 ab cb B)
    (hge : dval 4294967296 B ≤ dval 4294967296 A) (h2 : 4294967296 ≤ dval 4294967296 B) :
    Calls Try.prog 65 #[.slice aa A.length ca, .slice ab B.length cb] w (DivPost (dval 4294967296 A) (dval 4294967296 B) w) := by
  have HA := Lib.hid (cut_any aa ca A hA w rA)
  have HB := Lib.hid (cut_any ab cb B hB w rB)
  have RA := Lib.hid (rA.cut hA)
  have RB := Lib.hid (rB.cut hB)
  have HC := Lib.hid (cmp_any aa ab ca cb (digs 4294967296 (dval 4294967296 A)) (digs 4294967296 (dval 4294967296 B)) (digs_lt (by omega) _) (digs_lt (by omega) _) w RA.out RB.out)
  rw [dval_digs (by omega), dval_digs (by omega)] at HC
  have hc0 := cmpN_ge hge
  have hc1 := @cmpN_le (dval 4294967296 A) (dval 4294967296 B)
  generalize cmpN (dval 4294967296 A) (dval 4294967296 B) = c at *
  have hDl := digs_lt (B := 4294967296) (by omega) (dval 4294967296 A)
  have hDe := Nat.le_trans (digs_le (B := 4294967296) (by omega) A hA) ha
  have hDv := dval_digs (B := 4294967296) (by omega) (dval 4294967296 A)
  have hEl := digs_lt (B := 4294967296) (by omega) (dval 4294967296 B)
  have hEe := Nat.le_trans (digs_le (B := 4294967296) (by omega) B hB) hb
  have hEv := dval_digs (B := 4294967296) (by omega) (dval 4294967296 B)
  have hE2 := digs_two (s := 0) h2
  rw [Nat.pow_zero, Nat.mul_one] at hE2
  have hxk : dval 4294967296 A < 4294967296 ^ A.length := dval_lt _ _ hA
  have hyk : dval 4294967296 B < 4294967296 ^ B.length := dval_lt _ _ hB
  have HGX := Lib.hid fun s (hs : s ≤ 32) => Nat.le_trans (digs_grow hxk hs) (Nat.succ_le_succ ha)
  have HGY := Lib.hid fun s (hs : s ≤ 32) => Nat.le_trans (digs_grow hyk hs) (Nat.succ_le_succ hb)
  generalize dval 4294967296 A = x at *
  generalize dval 4294967296 B = y at *
  generalize digs 4294967296 x = D at *
  generalize digs 4294967296 y = E at *
  obtain ⟨t, ht⟩ : ∃ t, E.length = t + 1 := ⟨E.length - 1, by omega⟩
  obtain ⟨bb, hab, hbb, hcb⟩ := RB.out.cell t (by omega)
  subst hab
  have htop := hEl _ (List.getElem_mem (show t < E.length by omega))
  obtain ⟨top, htp⟩ : ∃ top, top = E[t]'(by omega) := ⟨_, rfl⟩
  rw [← htp] at htop
  have HTP := Lib.hid htp
  have hm := RB.out.max
  have hle := RB.out.le
  unfold maxLen at hm
  have HDL := Lib.hid hDl
  have HEL := Lib.hid hEl
  have HLB := Lib.hid fun W (rw : RowAt W .u32 (some ⟨bb, 0, none⟩) cb E) s (hs : s ≤ 32) => left_any (some ⟨bb, 0, none⟩) cb E s hEl (by omega) (by omega) W rw
  have HLA := Lib.hid fun W (rw : RowAt W .u32 aa ca D) s (hs : s ≤ 32) => left_any aa ca D s hDl (by omega) (by omega) W rw
  rw [hEv] at HLB
  rw [hDv] at HLA
  have HBL := Lib.hid (bitLen_u32 top htop)
  have HLZ := Lib.hid fun W => Try.bits_LeadingZeros32 (top : Int) W (by omega) (by omega)
  rw [Int.toNat_natCast] at HLZ
  generalize Lib.bitLen top = bl at *
  obtain ⟨s, hs⟩ : ∃ s : Nat, (32 : Int) - (bl : Int) = (s : Int) := ⟨32 - bl, by have := HBL.out; omega⟩
  rw [hs] at HLZ
  have hs32 : s ≤ 32 := by have := HBL.out; omega
  have HLB2 := Lib.hid fun W rw => HLB.out W rw s hs32
  have HLA2 := Lib.hid fun W rw => HLA.out W rw s hs32
  have hbeg := DivAt.begin (x := x) (y := y) (s := s) (by omega) hge
  have hv2 := digs_two (s := s) h2
  have hgx := HGX.out s hs32
  have hgy := HGY.out s hs32
  have HANS := Lib.hid fun M U Q => @DivAt.answer x y s M U Q
  have hVl := digs_lt (B := 4294967296) (by omega) (y * 2 ^ s)
  have hVt := fun n hn => digs_top (B := 4294967296) (by omega) (y * 2 ^ s) n hn
  have hGl := digs_lt (B := 4294967296) (by omega) (x * 2 ^ s)
  generalize digs 4294967296 (y * 2 ^ s) = V at *
  generalize digs 4294967296 (x * 2 ^ s) = G at *
  generalize x * 2 ^ s = X at *
  obtain ⟨n, hn⟩ : ∃ n, V.length = n := ⟨_, rfl⟩
  obtain ⟨nu, hnu⟩ : ∃ nu, G.length + 1 = nu := ⟨_, rfl⟩
  rw [hnu, hn] at hbeg
  obtain ⟨hb1, HB0⟩ := hbeg
  obtain ⟨nx, hnq⟩ : ∃ nx, nu - n = nx := ⟨_, rfl⟩
  rw [hnq] at HB0
  rw [hn] at hv2 hgy
  have HVL := Lib.hid hVl
  have HVT : Hid (V.getD (n - 1) 0 ≠ 0) := hVt (n - 1) (by omega)
  have HGL := Lib.hid hGl
  have HN := Lib.hid hn
  have HNU : Hid ((G ++ [0]).length = nu) := by show _ = _; simp [hnu]
  have HBG := Lib.hid HB0
  have hnq1 : (nu : Int) - (n : Int) = (nx : Int) := by omega
  have hnq2 : (nu : Int) - (n : Int) - 1 = (nx : Int) - 1 := by omega
  have hnub : nu ≤ 5000 := by omega
  have hnun : n < nu := by omega
  have HNQ : Hid (nu = n + nx) := by show _ = _; omega
  have hnqb : nx ≤ 5000 := by omega
  have HGS : Hid (G.length ≤ 10000000) := by show _ ≤ _; omega
  rw [ht] at hle HLB2
  have HB1 := HB
  rw [ht] at HB1 HC
  have htE : ((t : Int) + 1 == 1) = false := by rw [beq_eq_false_iff_ne]; omega
  have hte1 : (t : Int) + 1 - 1 = (t : Int) := by omega
  clear hA hB rA rB hge hDl hEl HLB HLA HBL HGX HGY hDv hEv hxk hyk hs HB h2 hbb hcb htp htop hVl hVt hGl hn hnu hb1 HB0 hnq hgx hgy hE2 ha hb hEe hDe
  go_enter Try.func65, Try.ntmps65
  go_wp2_with fail
  go_step3
  go_wp2_with (first | (go_at_call 83; with_reducible refine HA.out.mono ?_; rintro e w' ⟨rfl, rfl⟩) | (go_at_call 83; with_reducible refine HB1.out.mono ?_; rintro e w' ⟨rfl, rfl⟩) | (go_at_call 75; refine HC.out.mono ?_; rintro e w1 ⟨rfl, B1⟩; have RB1 := Lib.hid (RB.out.below B1 (Nat.le_refl _)); have RA1 := Lib.hid (RA.out.below B1 (Nat.le_refl _)); obtain ⟨bb2, hab2, hbb3, hcb3⟩ := RB1.out.cell t (by omega); cases hab2; rw [← HTP.out] at hcb3; have BB1 := Lib.hid B1; clear B1) | (go_at_call 84; refine (HLZ.out _).mono ?_; rintro e w2 ⟨rfl, hw2⟩; subst hw2) | (go_at_call 69; (with_reducible refine (HLB2.out _ RB1.out).mono ?_); rintro e w3 ⟨v3, rfl, ov3, B3⟩; obtain ⟨av, cv, rfl, rv⟩ := own_slice ov3; have RV := Lib.hid rv; have RA3 := Lib.hid (RA1.out.below B3 (Nat.le_refl _)); have BB3 := Lib.hid (BB1.out.on B3); rw [HN.out]; clear ov3 rv B3 hcb3) | (go_at_call 69; (with_reducible refine (HLA2.out _ RA3.out).mono ?_); rintro e w4 ⟨v4, rfl, ov4, B4⟩; have HA4 : Hid (Ap w3 91 .u32 v4 G w4) := ⟨ov4, B4⟩; clear ov4 B4) | (at_builtin; refine wpList_append_one rfl _ _ 77 rfl Try.underlying77 info91 rfl (by omega) w3 HA4.out 0 _ rfl rfl rfl HGS.out ?_; intro v5 w5 hap5; obtain ⟨ao5, cu5, hv5, r5⟩ := own_slice hap5.own; subst hv5; rw [HNU.out] at hap5 ⊢; obtain ⟨gu, hao, hgu1, hgu2⟩ := hap5.some (by rw [HNU.out]; omega); subst hao; have HA5 := Lib.hid hap5; clear r5 hap5) | (at_make; refine wpList_make_ap rfl _ _ 77 rfl Try.underlying77 info91 (by omega) w3 HA5.out.below nx nx _ _ .i64 .i64 rfl rfl rfl rfl (Nat.le_refl _) (by omega) ?_; intro w6 hap6 hs6 hb6; have HA6 := Lib.hid hap6; have HU6 := Lib.hid (HA5.out.on hb6); have hgne : gu ≠ w5.heap.size := (by omega); clear hap6 hs6 hb6 hgu2))
  go_step3
  have HOWN : Hid (DivOwn w3 w6 gu nu cu5 w5.heap.size nx (G ++ [0]) (List.replicate nx 0)) := ⟨HU6.out, HA6.out, HNU.out, by rw [List.length_replicate], hgne⟩
  clear HU6 HA6 HA5 HA4 hgne
  generalize w5.heap.size = gq at *
  go_wp2
  go_loopg [13] nx (fun g vj wr => ∃ (j : Nat) (U Q : List Nat), j = g ∧ j ≤ nx ∧ vj = .int .i64 ((j : Int) - 1) ∧ Hid (DivAt 4294967296 V X nu j U Q) ∧ Hid (DivOwn w3 wr gu nu cu5 gq nx U Q))
  case atStart => exact ⟨nx, _, _, rfl, Nat.le_refl _, by first | rfl | rw [hnq2], HBG, HOWN⟩
  case round =>
    obtain ⟨j, U, Q, rfl, hj, rfl, HD, HW⟩ := hrel
    clear HOWN HBG
    by_cases hj0 : j = 0
    · as_aux_lemma =>
        subst hj0
        obtain ⟨nr, HQC, HUC, HRT, HQR⟩ := HW.out.ends HD.out.ult HD.out.qlt hnub hs32 (HANS.out _ _ _ HD.out)
        have HBF := Lib.hid (BB3.out.on HW.out.u.below)
        clear HD HW
        go_wp2_with (first | (go_at_call 83; with_reducible refine HQC.out.mono ?_; rintro e w' ⟨rfl, rfl⟩) | (go_at_call 83; with_reducible refine HUC.out.mono ?_; rintro e w' ⟨rfl, rfl⟩) | (go_at_call 68; (with_reducible refine HRT.out.mono ?_); rintro e w9 ⟨v9, rfl, ov9, B9⟩; obtain ⟨av9, cv9, rfl, rv9⟩ := own_slice ov9))
        rw [Exit.noGoto_ret]
        go_ret2
        exact ⟨_, _, _, _, rfl, HQR.out.below B9 (Nat.le_refl _), rv9, HBF.out.on B9⟩
    · obtain ⟨k, rfl⟩ : ∃ k, j = k + 1 := ⟨j - 1, by omega⟩
      have hjk : ((k + 1 : Nat) : Int) - 1 = (k : Int) := by omega
      rw [hjk]
      have hnq := HNQ.out
      obtain ⟨bv, hbv, hbv1, hcv1⟩ := RV.out.get HW.out.u.below (n - 1) (by rw [HN.out]; omega)
      subst hbv
      obtain ⟨bv2, hbv, _, hcv2⟩ := RV.out.get HW.out.u.below (n - 2) (by rw [HN.out]; omega)
      cases hbv
      rw [← getD_lt] at hcv1 hcv2
      have hcu0 := HW.out.getU (k + n) (by omega)
      have hcu1 := HW.out.getU (k + n - 1) (by omega)
      have hcu2 := HW.out.getU (k + n - 2) (by omega)
      have hU := fun i => getD_small HD.out.ult (show 0 < 4294967296 by omega) i
      have hV := fun i => getD_small HVL.out (show 0 < 4294967296 by omega) i
      have hu0 := hU (k + n)
      have hu1 := hU (k + n - 1)
      have hu2 := hU (k + n - 2)
      have hv1 := hV (n - 1)
      have hv2 := hV (n - 2)
      have hv0 := HVT.out
      have HES := Lib.hid (HD.out.start_est (by omega) HN.out (by omega) HVL.out HVT.out)
      clear hU hV hnq
      generalize U.getD (k + n) 0 = u0 at *
      generalize U.getD (k + n - 1) 0 = u1 at *
      generalize hgu2 : U.getD (k + n - 2) 0 = u2 at *
      generalize hgv1 : V.getD (n - 1) 0 = v1 at *
      generalize hgv2 : V.getD (n - 2) 0 = v2 at *
      have HU2 := Lib.hid hgu2
      have HV1 := Lib.hid hgv1
      have HV2 := Lib.hid hgv2
      clear hgu2 hgv1 hgv2
      have hi0 : (0 : Int) ≤ (k : Int) + n := by omega
      have hi1 : (0 : Int) ≤ (k : Int) + n - 1 := by omega
      have hj0 : (k : Int) + n < nu := by have := HNQ.out; omega
      have hj1 : (k : Int) + n - 1 < nu := by have := HNQ.out; omega
      have hk0 : ((k : Int) + n).toNat = k + n := by omega
      have hk1 : ((k : Int) + n - 1).toNat = k + n - 1 := by omega
      have hw0 : IntKind.i64.wrap ((k : Int) + n) = (k : Int) + n := by rw [IntKind.wrap_i64]; have := HNQ.out; omega
      have hw1 : IntKind.i64.wrap ((k : Int) + n - 1) = (k : Int) + n - 1 := by rw [IntKind.wrap_i64]; have := HNQ.out; omega
      go_wp2
      go_region
      go_wp2
      rw [high_or u0 u1 hu0 hu1]
      have hT : u0 * 4294967296 + u1 < 18446744073709551616 := by omega
      generalize u0 * 4294967296 + u1 = T at *
      have hv1z : ¬ (v1 : Int) = 0 := by omega
      have hv1b : ((v1 : Int) == 0) = false := by rw [beq_eq_false_iff_ne]; omega
      have hin1 : (0 : Int) ≤ (n : Int) - 1 := by omega
      have hin2 : (n : Int) - 1 < n := by omega
      have hin3 : ((n : Int) - 1).toNat = n - 1 := by omega
      have hjn1 : (0 : Int) ≤ (k : Int) + n - 2 := by omega
      have hjn2 : (k : Int) + n - 2 < nu := by have := HNQ.out; omega
      have hjn3 : ((k : Int) + n - 2).toNat = k + n - 2 := by omega
      have hjn4 : IntKind.i64.wrap ((k : Int) + n - 2) = (k : Int) + n - 2 := by rw [IntKind.wrap_i64]; have := HNQ.out; omega
      have hin5 : (0 : Int) ≤ (n : Int) - 2 := by omega
      have hin6 : (n : Int) - 2 < n := by omega
      have hin7 : ((n : Int) - 2).toNat = n - 2 := by omega
      have hin8 : IntKind.i64.wrap ((n : Int) - 2) = (n : Int) - 2 := by rw [IntKind.wrap_i64]; omega
      have hin4 : IntKind.i64.wrap ((n : Int) - 1) = (n : Int) - 1 := by rw [IntKind.wrap_i64]; omega
      have hwv : IntKind.u64.wrap (v1 : Int) = v1 := by rw [IntKind.wrap_u64]; omega
      go_region
      go_upto_block 2 with fail
      have hqw : IntKind.u64.wrap ((T : Int) / (v1 : Int)) = ((T / v1 : Nat) : Int) := by
        have h1 : ((T / v1 : Nat) : Int) = (T : Int) / (v1 : Int) := Int.natCast_ediv T v1
        have h2 : T / v1 ≤ T := Nat.div_le_self T v1
        rw [← h1]
        generalize T / v1 = z at h2 ⊢
        rw [IntKind.wrap_u64]; omega
      have hrw : (T : Int) % (v1 : Int) = ((T % v1 : Nat) : Int) := (Int.natCast_emod T v1).symm
      rw [hqw, hrw]
      have hTq : T / v1 < 18446744073709551616 := Nat.lt_of_le_of_lt (Nat.div_le_self T v1) hT
      have HU0 := Lib.hid HES.out.2
      have HE0 := Lib.hid HES.out.1
      have HW2 : Hid (DivOwn w3 wr.drew.drew gu nu cu5 gq nx U Q) := HW.out.drew.drew
      generalize T / v1 = q0 at *
      generalize T % v1 = r0 at *
      generalize wr.drew.drew = wd at *
      clear HES hqw hrw hcu0 hcu1 hcu2 hcv1 hcv2 hT HW
      go_cut [15, 16] from 75 to 248 (fun vq vr wx => ∃ (q r : Nat), vq = .int .u64 (q : Int) ∧ vr = .int .u64 (r : Int) ∧ Hid (q < 4294967296) ∧ Hid (dval 4294967296 U / 4294967296 ^ k / dval 4294967296 V ≤ q ∧ q ≤ dval 4294967296 U / 4294967296 ^ k / dval 4294967296 V + 1) ∧ Hid (DivOwn w3 wx gu nu cu5 gq nx U Q))
      case first =>
        as_aux_lemma =>
          obtain ⟨wo, hwo⟩ : ∃ wo : World, wo = wd := ⟨_, rfl⟩
          subst hwo
          go_wp2_with fail
          go_loopg [15, 16] q0 (fun g vq vr wl => ∃ (q r : Nat), q = g ∧ vq = .int .u64 (q : Int) ∧ vr = .int .u64 (r : Int) ∧ q < 18446744073709551616 ∧ Hid (EstAt 4294967296 (dval 4294967296 U / 4294967296 ^ k) (dval 4294967296 V) (4294967296 ^ (n - 2)) v1 v2 u0 u1 u2 q r) ∧ Hid (DivOwn w3 wl gu nu cu5 gq nx U Q))
          case atStart => exact ⟨q0, r0, rfl, rfl, rfl, hTq, HE0, HW2⟩
          case round =>
            obtain ⟨q, r, rfl, rfl, rfl, hq64, HE, HWL⟩ := hrel
            clear HE0 HW2 hTq
            have hr32 := HE.out.rest
            go_upto_region 17 with fail
            go_cut [135] from 112 to 147 (fun vc wx => vc = .bool (decide (4294967296 ≤ q ∨ r * 4294967296 + u2 < q * v2)) ∧ Hid (DivOwn w3 wx gu nu cu5 gq nx U Q))
            case first =>
              obtain ⟨_, hbv, hbvl, hcv2⟩ := RV.out.get HWL.out.u.below (n - 2) (by rw [HN.out]; omega)
              cases hbv
              rw [← getD_lt, HV2.out] at hcv2
              have hcu2 := HWL.out.getU (k + n - 2) (by have := HNQ.out; omega)
              rw [HU2.out] at hcu2
              by_cases hq1 : q < 4294967296
              · obtain ⟨p2, hp2⟩ : ∃ p2, p2 = q * v2 := ⟨_, rfl⟩
                have hpv : q * v2 < 18446744073709551616 := by
                  have : q * v2 ≤ 4294967295 * 4294967295 := Nat.mul_le_mul (by omega) (by omega)
                  omega
                have hwq : IntKind.u64.wrap ((q : Int) * (v2 : Int)) = (p2 : Int) := by
                  rw [IntKind.wrap_u64, hp2, Int.natCast_mul]
                  have : ((q * v2 : Nat) : Int) = (q : Int) * v2 := Int.natCast_mul q v2
                  omega
                have hwr : IntKind.u64.wrap ((r : Int) * 4294967296) = (r : Int) * 4294967296 := by rw [IntKind.wrap_u64]; omega
                have hor := high_or r u2 hr32 hu2
                have hp3 : (r * 4294967296 + u2 < q * v2) = (r * 4294967296 + u2 < p2) := by rw [hp2]
                have hwu : IntKind.u64.wrap (u2 : Int) = u2 := by rw [IntKind.wrap_u64]; omega
                have hwv2 : IntKind.u64.wrap (v2 : Int) = v2 := by rw [IntKind.wrap_u64]; omega
                have hq3 : ¬ (4294967295 : Int) < q := by omega
                have hq5 : decide ((4294967295 : Int) < (q : Int)) = false := decide_eq_false hq3
                have hq6 : decide (((r * 4294967296 + u2 : Nat) : Int) < (p2 : Int)) = decide (4294967296 ≤ q ∨ r * 4294967296 + u2 < q * v2) := by
                  rw [decide_eq_decide, hp3]; omega
                have HQ6 := Lib.hid hq6
                clear hpv hp2 hp3 hq6
                go_quiet (fail)
                go_wp2
                go_meet
                exact ⟨congrArg Value.bool HQ6.out, HWL.out.drewN _⟩
              · have hq3 : (4294967295 : Int) < q := by omega
                have hq5 : decide ((4294967295 : Int) < (q : Int)) = true := decide_eq_true hq3
                have hq6 : decide (4294967296 ≤ q ∨ r * 4294967296 + u2 < q * v2) = true := decide_eq_true (.inl (by omega))
                have HQ6 := Lib.hid hq6
                clear hq6
                go_quiet (fail)
                go_wp2
                go_meet
                exact ⟨congrArg Value.bool HQ6.out.symm, HWL.out.drewN _⟩
            case rest =>
              obtain ⟨rfl, HWC⟩ := hcut
              clear HWL
              by_cases hcond : 4294967296 ≤ q ∨ r * 4294967296 + u2 < q * v2
              · rw [decide_eq_true hcond]
                have hdn := HE.out.down hcond
                have hq0 := hdn.1
                have hqm : IntKind.u64.wrap ((q : Int) - 1) = ((q - 1 : Nat) : Int) := by rw [IntKind.wrap_u64]; omega
                have hrp : IntKind.u64.wrap ((r : Int) + (v1 : Int)) = ((r + v1 : Nat) : Int) := by rw [IntKind.wrap_u64]; omega
                obtain ⟨_, hbv, hbvl, hcv1⟩ := RV.out.get HWC.out.u.below (n - 1) (by rw [HN.out]; omega)
                cases hbv
                rw [← getD_lt, HV1.out] at hcv1
                by_cases hbr : r + v1 < 4294967296
                · have HNX := Lib.hid (HE.out.next hcond hbr)
                  have hbz : ¬ (4294967295 : Int) < ((r + v1 : Nat) : Int) := by omega
                  have hbd : decide ((4294967295 : Int) < ((r + v1 : Nat) : Int)) = false := decide_eq_false hbz
                  have hqs : q - 1 < q := by omega
                  have hqt : q - 1 < 18446744073709551616 := by omega
                  clear hcond hdn
                  go_wp2
                  go_roundg (q - 1)
                  case measure => exact hqs
                  case rel => exact ⟨q - 1, r + v1, rfl, by first | rfl | rw [hqm], by first | rfl | rw [hrp], hqt, HNX, HWC⟩
                · have HBR := Lib.hid (HE.out.breaks HU0.out hu1 hcond (by omega))
                  have hbz : (4294967295 : Int) < ((r + v1 : Nat) : Int) := by omega
                  have hbd : decide ((4294967295 : Int) < ((r + v1 : Nat) : Int)) = true := decide_eq_true hbz
                  clear hcond hdn
                  go_wp2
                  go_meet
                  exact ⟨q - 1, r + v1, by first | rfl | rw [hqm], by first | rfl | rw [hrp], HBR.out.1, HBR.out.2, HWC⟩
              · rw [decide_eq_false hcond]
                have HF := Lib.hid (HE.out.fits hcond)
                clear hcond
                go_wp2
                go_meet
                exact ⟨q, r, rfl, rfl, HF.out.1, HF.out.2, HWC⟩
      case rest =>
        obtain ⟨q, r, rfl, rfl, HQQ, HFF, HWN⟩ := hcut
        clear HE0 HW2 hTq HU0 HU2 HV1 HV2 hwv hin1 hin2 hin3 hin4 hin5 hin6 hin7 hin8 hjn1 hjn2 hjn3 hjn4 hi1 hj1 hk1 hw1 hu0 hu1 hu2 hv0 hv1 hv2 hv1z hv1b
        by_cases hq0 : q = 0
        · have HSK2 := Lib.hid (HD.out.skip (by omega) (by have := HFF.out.1; omega))
          have hqz : ((q : Int) == 0) = true := by rw [beq_iff_eq]; omega
          clear hq0 HANS HD HFF HQQ
          go_wp2
          go_roundg k
          case measure => omega
          case rel => exact ⟨k, U, Q, rfl, by omega, rfl, HSK2, HWN⟩
        · have HMS0 := Lib.hid (MsAt.start (V := V) (by omega : 0 < 4294967296) q k HD.out.ult)
          have hqz : ((q : Int) == 0) = false := by rw [beq_eq_false_iff_ne]; omega
          obtain ⟨wo, hwo⟩ : ∃ wo : World, wo = wc := ⟨_, rfl⟩
          subst hwo
          go_wp2
          go_loopg [17, 18, 151] n (fun g vb vc vi wl => ∃ (i b c : Nat) (O : List Nat), g = n - i ∧ i ≤ n ∧ vi = .int .i64 (i : Int) ∧ vc = .int .u64 (c : Int) ∧ vb = .int .u64 (b : Int) ∧ Hid (MsAt 4294967296 U V q k i c b O) ∧ Hid (DivOwn w3 wl gu nu cu5 gq nx O Q))
          case atStart => exact ⟨0, 0, 0, U, rfl, Nat.zero_le _, rfl, rfl, rfl, HMS0, HWN⟩
          case round =>
            obtain ⟨i, b, c2, O, rfl, hi, rfl, rfl, rfl, HM, HWO⟩ := hrel
            clear HWN HMS0
            have hc2 := HM.out.carry
            have hb1 := HM.out.borrow
            by_cases hlt : i < n
            · obtain ⟨_, hbv, hbl, hcvi⟩ := RV.out.get HWO.out.u.below i (by rw [HN.out]; exact hlt)
              cases hbv
              rw [← getD_lt] at hcvi
              have hvi := getD_small HVL.out (show 0 < 4294967296 by omega) i
              have hcui := HWO.out.getU (i + k) (by have := HNQ.out; omega)
              have hfzi := HWO.out.frU (i + k)
              have hui := getD_small HM.out.lt (show 0 < 4294967296 by omega) (i + k)
              have HSTO := Lib.hid fun d => HWO.out.storeU (i + k) d
              have HSTP := Lib.hid (HM.out.step_walk HQQ.out HVL.out HN.out hlt (by rw [HD.out.ulen]; have := HNQ.out; omega))
              have hgs := HWO.out.szU
              generalize V.getD i 0 = v at *
              generalize O.getD (i + k) 0 = o at *
              have hcb : c2 + q * v < 18446744073709551616 := by
                have := sum_lt (β := 4294967296) (c := c2) (x := q) (y := v) (o := 0) hc2 HQQ.out hvi (by omega)
                omega
              have hx0 : (0 : Int) ≤ (i : Int) + k := by omega
              have hx1 : (i : Int) + k < nu := by have := HNQ.out; omega
              have hx2 : ((i : Int) + k).toNat = i + k := by omega
              go_wp2
              have hand := and_low (c2 + q * v) hcb
              have e1 : (c2 : Int) + (q : Int) * (v : Int) = ((c2 + q * v : Nat) : Int) := by rw [Int.natCast_add, Int.natCast_mul]
              rw [e1, hand]
              have HSTQ := HSTP.out
              generalize c2 + q * v = c1 at *
              obtain ⟨x, hx⟩ : ∃ x : Nat, IntKind.u64.wrap (IntKind.u64.wrap ((o : Int) - ((c1 % 4294967296 : Nat) : Int)) - (b : Int)) = (x : Int) := ⟨_, (Int.toNat_of_nonneg (by rw [IntKind.wrap_u64]; omega)).symm⟩
              obtain ⟨_, HN3⟩ := HSTQ x hx.symm
              rw [hx]
              go_roundg (n - (i + 1))
              case measure => omega
              case rel => exact ⟨i + 1, x / 9223372036854775808, c1 / 4294967296, _, rfl, hlt, by rw [Int.natCast_add]; rfl, congrArg (Value.int .u64) (cast_div c1 4294967296), congrArg (Value.int .u64) (cast_div x 9223372036854775808), HN3, HSTO.out (x % 4294967296)⟩
            · have hie : i = n := by omega
              subst hie
              have hcui := HWO.out.getU (k + i) (by have := HNQ.out; omega)
              have hfzi := HWO.out.frU (k + i)
              have hui := getD_small HM.out.lt (show 0 < 4294967296 by omega) (k + i)
              have HSTO := Lib.hid fun d => HWO.out.storeU (k + i) d
              have HLW := Lib.hid fun x => HD.out.last_walk (x := x) HFF.out.1 HN.out HM.out
              have hgs := HWO.out.szU
              have hgs2 := HWO.out.szQ
              generalize O.getD (k + i) 0 = o at *
              obtain ⟨x, hx⟩ : ∃ x : Nat, IntKind.u64.wrap (IntKind.u64.wrap ((o : Int) - (c2 : Int)) - (b : Int)) = (x : Int) := ⟨_, (Int.toNat_of_nonneg (by rw [IntKind.wrap_u64]; omega)).symm⟩
              obtain ⟨hr1, hr2⟩ := HLW.out x hx.symm
              have HST1 := HSTO.out (x % 4294967296)
              have HST2 := Lib.hid HST1
              have hk1 : k < nx := by omega
              have hk2 : (k : Int) < nx := by omega
              by_cases hx0 : x / 9223372036854775808 = 0
              · have HDN := Lib.hid (hr1 hx0)
                have hxz : ((x : Int) / 9223372036854775808 != 0) = false := by rw [bne_eq_false_iff_eq]; omega
                have hcq : (wr.setCell ⟨gu, k + i, none⟩ (.int .u32 ((x : Int) % 4294967296))).cell? ⟨gq, k, none⟩ = some (.int .u32 ((Q.getD k 0 : Nat) : Int)) := HST1.getQ k hk1
                have hfq : (wr.setCell ⟨gu, k + i, none⟩ (.int .u32 ((x : Int) % 4294967296))).frozen? ⟨gq, k, none⟩ = false := HST1.frQ k
                have HFIN := Lib.hid (HST1.storeQ k q)
                have hqw : (q : Int) % 4294967296 = q := by have := HQQ.out; omega
                clear hr1 hr2 HST1 HLW HSTO HST2
                go_wp2
                go_roundg k
                case measure => omega
                case rel => exact ⟨k, _, _, rfl, Nat.le_of_lt hk1, rfl, HDN, HFIN⟩
              · have HWR := Lib.hid (hr2 hx0)
                have hxz : ((x : Int) / 9223372036854775808 != 0) = true := by rw [bne_iff_ne]; omega
                clear hr1 hr2 HST1 HLW HSTO
                have hqm : IntKind.u64.wrap ((q : Int) - 1) = ((q - 1 : Nat) : Int) := by rw [IntKind.wrap_u64]; have := HQQ.out; omega
                have HQM : Hid (q - 1 < 4294967296) := by show _ < _; have := HQQ.out; omega
                have HWR2 := Lib.hid fun c O' h => HD.out.wrong_walk (O' := O') (c := c) HVL.out HFF.out.2 (by omega) HN.out HWR.out h
                have HAB0 := Lib.hid (AbAt.start (V := V) k HWR.out.lt)
                have HOL : Hid ((O.set (k + i) (x % 4294967296)).length = nu) := by show _ = _; rw [HWR.out.len, HD.out.ulen]
                obtain ⟨q2, hq2⟩ : ∃ q2, q2 = q - 1 := ⟨_, rfl⟩
                rw [← hq2] at hqm HQM HWR2
                clear hq2 HWR HFF HM HWO
                generalize O.set (k + i) (x % 4294967296) = O1 at *
                go_wp2
                obtain ⟨wv, hwv⟩ : ∃ wv : World, wv = wr.setCell ⟨gu, k + i, none⟩ (.int .u32 ((x : Int) % 4294967296)) := ⟨_, rfl⟩
                have HWV : Hid (DivOwn w3 wv gu nu cu5 gq nx O1 Q) := by show DivOwn _ _ _ _ _ _ _ _ _; rw [hwv]; exact HST2.out
                rw [← hwv]
                clear hwv HST2
                go_loopg [22, 211] i (fun g vc vi wl => ∃ (m c : Nat) (O2 : List Nat), g = i - m ∧ m ≤ i ∧ vi = .int .i64 (m : Int) ∧ vc = .int .u32 (c : Int) ∧ Hid (AbAt 4294967296 O1 V k m c O2) ∧ Hid (DivOwn w3 wl gu nu cu5 gq nx O2 Q))
                case atStart => exact ⟨0, 0, O1, rfl, Nat.zero_le _, rfl, rfl, HAB0, HWV⟩
                case round =>
                  obtain ⟨m, c4, O2, rfl, hm2, rfl, rfl, HA4, HWA⟩ := hrel
                  clear HAB0 HWV
                  have hc4 := HA4.out.carry
                  by_cases hlt : m < i
                  · obtain ⟨_, hbv, hbl, hcvi⟩ := RV.out.get HWA.out.u.below m (by rw [HN.out]; exact hlt)
                    cases hbv
                    rw [← getD_lt] at hcvi
                    have hvi := getD_small HVL.out (show 0 < 4294967296 by omega) m
                    have hcui := HWA.out.getU (m + k) (by have := HNQ.out; omega)
                    have hfzi := HWA.out.frU (m + k)
                    have hui := getD_small HA4.out.lt (show 0 < 4294967296 by omega) (m + k)
                    have HSTO := Lib.hid fun d => (HWA.out.storeU (m + k) d).drew
                    have HSTP := Lib.hid (HA4.out.step_walk HVL.out HN.out hlt (by rw [HOL.out]; have := HNQ.out; omega))
                    have hgs := HWA.out.szU
                    generalize V.getD m 0 = v at *
                    generalize O2.getD (m + k) 0 = o at *
                    have hx0 : (0 : Int) ≤ (m : Int) + k := by omega
                    have hx1 : (m : Int) + k < nu := by have := HNQ.out; omega
                    have hx2 : ((m : Int) + k).toNat = m + k := by omega
                    have hx3 : IntKind.i64.wrap ((m : Int) + k) = (m : Int) + k := by rw [IntKind.wrap_i64]; omega
                    have hmz : (m : Int) < i := by omega
                    have HADD := Lib.hid fun W => Add32_any o v c4 hui hvi (by omega) W
                    go_wp2
                    go_region_law (first | (go_simp; go_at_call 85; refine (HADD.out _).mono ?_; rintro e w' ⟨rfl, rfl⟩))
                    all_goals
                      go_wp2
                      go_roundg (i - (m + 1))
                      case measure => omega
                      case rel => exact ⟨m + 1, (o + v + c4) / 4294967296, _, rfl, hlt, by rw [Int.natCast_add]; rfl, congrArg (Value.int .u32) (cast_div (o + v + c4) 4294967296), HSTP, HSTO.out ((o + v + c4) % 4294967296)⟩
                  · have hme : m = i := by omega
                    subst hme
                    have hcui := HWA.out.getU (k + m) (by have := HNQ.out; omega)
                    have hfzi := HWA.out.frU (k + m)
                    have hui := getD_small HA4.out.lt (show 0 < 4294967296 by omega) (k + m)
                    have HDN := Lib.hid (HWR2.out _ _ HA4.out)
                    have HST3 := HWA.out.storeU (k + m) ((O2.getD (k + m) 0 + c4) % 4294967296)
                    have HFIN := Lib.hid (HST3.storeQ k q2)
                    have hgs := HWA.out.szU
                    generalize O2.getD (k + m) 0 = o at *
                    have hcq : (wr.setCell ⟨gu, k + m, none⟩ (.int .u32 (((o : Int) + (c4 : Int)) % 4294967296))).cell? ⟨gq, k, none⟩ = some (.int .u32 ((Q.getD k 0 : Nat) : Int)) := HST3.getQ k hk1
                    have hfq : (wr.setCell ⟨gu, k + m, none⟩ (.int .u32 (((o : Int) + (c4 : Int)) % 4294967296))).frozen? ⟨gq, k, none⟩ = false := HST3.frQ k
                    have hqw : (q2 : Int) % 4294967296 = q2 := by have := HQM.out; omega
                    clear HST3
                    go_wp2
                    go_roundg k
                    case measure => omega
                    case rel => exact ⟨k, _, _, rfl, Nat.le_of_lt hk1, rfl, HDN, HFIN⟩
/-- div is right at every divisor. -/
theorem divAtY_all (y : Nat) (h0 : y ≠ 0) : DivAtY y := by
  by_cases h1 : y < 4294967296
  · exact divAtY_small y h0 h1
  · intro aa ab ca cb A B hA hB ha hb hy w rA rB
    subst hy
    by_cases hlt : dval 4294967296 A < dval 4294967296 B
    · exact div_lt aa ab ca cb A B hA hB w rA rB hlt
    · exact div_two aa ab ca cb A B hA hB ha hb w rA rB (by omega) (by omega)
end Go.Proofs.Ytfhkpkebiinglaa
