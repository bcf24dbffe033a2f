/-
  The walk of TopAngles behind its range.
-/
import Derived.Test.YtacpakmglmfgnaaTs
import Derived.Sort.CutIn
import Derived.Sort.AtCallIn
namespace Go.Proofs.Ytacpakmglmfgnaa
open Go.RowKit Go.Shelf
attribute [local go_sem] Oper.semAt_some

noncomputable def sndC : Code → Code | .seq _ b => b | c => c
noncomputable def fstC : Code → Code | .seq a _ => a | c => c
/-- What stands behind TopAngles's first k parts. -/
noncomputable def restC (k : Nat) : Code := (List.range k).foldl (fun c _ => sndC c) (Try.f3.body.getD .skip)
theorem turns_same {x y d P L c : Nat} (hy : 0 < y) (hl : y ≤ 3000) (hd : 0 < d) (hd2 : d ≤ 64) (hg : Nat.gcd x y = 1) (hP : (kindA y d).1 = P) (hL : (kindA y d).2 = L) (hc : 0 < c) :
    x * (d ^ (P + c * L) % y) % y = x * (d ^ P % y) % y := by
  have hL0 : 0 < L := by rw [← hL]; exact kind_pos hy hl hd hd2
  have hcl : 0 < c * L := Nat.mul_pos hc hL0
  have h := (kind_eq hy hl hd hd2 hg (i := P) (j := P + c * L) (by omega)).2 ⟨by rw [hP]; exact Nat.le_refl _, by rw [hL, Nat.add_sub_cancel_left]; exact Nat.dvd_mul_left _ _⟩
  rw [Nat.mul_mod_mod, Nat.mul_mod_mod, h]
@[local go_sem] theorem run_eq_same (s t : ByteArray) (w : World) : (Op.equalIn 10000 24 (.agg #[.bool false, .string s, .string t]) (.agg #[.bool false, .string s, .string t])).run Try.prog w = .ok true w := by
  rw [run_eq_ratio]; simp
set_option maxRecDepth 100000 in
set_option maxHeartbeats 4000000 in
theorem top_end (HMUL : MulSays) (k : Nat) (hk1 : 1 ≤ k) (g q p D x y d P L : Nat) (den xv : Int) (w0 W : World) (hxy : x < y) (hy : y ≤ 3000) (hg1 : Nat.gcd x y = 1) (hd1 : 2 ≤ d) (hd2 : d ≤ 64) (hP : (kindA y d).1 = P) (hL : (kindA y d).2 = L)
    (hE : TE g q p D den (d : Nat) (enc x) (enc y) ((P : Int) + L) xv W) (hB : Below w0.heap.size w0 W) (hgw : w0.heap.size ≤ g)
    (z0 z1 z2 z3 z4 z5 z6 z10 z13 z14 z15 z16 z17 z18 z19 z20 z22 z23 z24 z25 z26 z27 z28 z29 z30 z31 z32 z33 z34 z35 z36 z37 z38 z39 z40 z41 z42 z43 z44 z45 z46 z47 z48 z49 z50 z51 z52 z53 z54 z55 z56 z57 z58 z59 z60 z61 z62 z63 z64 z65 z66 z67 z68 z69 z70 z71 z72 z73 z74 z75 z76 z77 z78 z79 z80 z81 z82 z83 z84 z85 z86 z87 z88 z89 z90 z91 z92 z93 z94 z95 z96 z97 z98 z99 z100 z101 z102 z103 z104 z105 z106 z107 z108 z109 z110 z111 z112 z113 z114 z115 z116 z117 z118 z119 z120 z121 z122 z123 z124 z125 z126 z127 z128 z129 z130 z131 z132 z133 z134 z135 z136 z137 z138 z139 z140 z141 z142 z143 z144 z145 z146 z147 z148 z149 z150 z151 z152 z153 z154 z155 z156 z157 z158 z159 z160 z161 z162 z163 z164 z165 z166 z167 z168 z169 z170 z171 z172 z173 z174 z175 z176 z177 z178 z179 z180 z181 z182 z183 z184 z185 z186 z187 z188 z189 z190 z191 z192 z193 z194 z195 z196 z197 z198 z199 z200 z201 z202 z203 z204 z205 z206 z207 z208 z209 z210 z211 z212 z213 z214 z215 z216 z217 z218 z219 z220 z221 z222 z223 z224 z225 z226 z227 z228 z229 z230 z231 z232 z233 z234 z235 z236 z237 z238 z239 z240 z241 z242 z243 z244 z245 z246 z247 z248 z249 z250 z251 z252 z253 z254 z255 z256 z257 z258 z259 z260 : Value) :
    (restC 15).wpIn Fence.wide k Try.prog (bodyPostM Fence.wide k Try.prog Try.f3 fun e w' => e = .returned (.bool true) ∧ Below w0.heap.size w0 w')
      ⟨[z0, z1, z2, z3, z4, z5, z6, .pointer (some ⟨g + 1, 0, none⟩), .pointer (some ⟨g + 2, 0, none⟩), .pointer (some ⟨q, 0, none⟩), z10, .int .i64 (P : Nat), .int .i64 (L : Nat), z13, z14, z15, z16, z17, z18, z19, z20, .pointer (some ⟨p, 0, none⟩), z22, z23, z24, z25, z26, z27, z28, z29, z30, z31, z32, z33, z34, z35, z36, z37, z38, z39, z40, z41, z42, z43, z44, z45, z46, z47, z48, z49, z50, z51, z52, z53, z54, z55, z56, z57, z58, z59, z60, z61, z62, z63, z64, z65, z66, z67, z68, z69, z70, z71, z72, z73, z74, z75, z76, z77, z78, z79, z80, z81, z82, z83, z84, z85, z86, z87, z88, z89, z90, z91, z92, z93, z94, z95, z96, z97, z98, z99, z100, z101, z102, z103, z104, z105, z106, z107, z108, z109, z110, z111, z112, z113, z114, z115, z116, z117, z118, z119, z120, z121, z122, z123, z124, z125, z126, z127, z128, z129, z130, z131, z132, z133, z134, z135, z136, z137, z138, z139, z140, z141, z142, z143, z144, z145, z146, z147, z148, z149, z150, z151, z152, z153, z154, z155, z156, z157, z158, z159, z160, z161, z162, z163, z164, z165, z166, z167, z168, z169, z170, z171, z172, z173, z174, z175, z176, z177, z178, z179, z180, z181, z182, z183, z184, z185, z186, z187, z188, z189, z190, z191, z192, z193, z194, z195, z196, z197, z198, z199, z200, z201, z202, z203, z204, z205, z206, z207, z208, z209, z210, z211, z212, z213, z214, z215, z216, z217, z218, z219, z220, z221, z222, z223, z224, z225, z226, z227, z228, z229, z230, z231, z232, z233, z234, z235, z236, z237, z238, z239, z240, z241, z242, z243, z244, z245, z246, z247, z248, z249, z250, z251, z252, z253, z254, z255, z256, z257, z258, z259, z260].toArray, [{ target := .collected D, args := #[] }]⟩ W := by
  have hL0 : 0 < L := by rw [← hL]; exact kind_pos (by omega) hy (by omega) hd2
  have hkl := kind_le (d := d) (D := y) (by omega) hy
  rw [hP, hL] at hkl
  obtain ⟨hP2, hL2⟩ := hkl
  have HT1 : ∀ W, Calls Try.prog 9 #[ratV x y, .int .i64 (d : Nat), .int .i64 ((P : Int) + 1000000007 * (L : Int))] W _ := fun W => by
    have h := Turns_any x y d (P + 1000000007 * L) hxy (by omega) hg1 hd1 hd2 (by omega) W
    rw [turns_same (by omega) hy (by omega) hd2 hg1 hP hL (by omega)] at h
    have e : ((P + 1000000007 * L : Nat) : Int) = (P : Int) + 1000000007 * (L : Int) := by omega
    rw [e] at h
    exact h
  have HT2 := fun W => Turns_any x y d P hxy (by omega) hg1 hd1 hd2 (by omega) W
  have hmem : (kindA y 2).1 = 0 → (kindA y 2).2 = L → (x, y) ∈ Fl (2 ^ L - 1) L (2 ^ L - 1) := fun h1 h2 => fl_mem hxy hy hg1 hL0 h1 h2
  generalize x * (d ^ P % y) % y / Nat.gcd (x * (d ^ P % y) % y) y = fa at *
  generalize y / Nat.gcd (x * (d ^ P % y) % y) y = fb at *
  have HFL : Hid (d = 2 → P = 0 → ∃ i, ∃ h : i < (Fl (2 ^ L - 1) L (2 ^ L - 1)).length, (Fl (2 ^ L - 1) L (2 ^ L - 1))[i] = (x, y)) := fun e1 e2 => by
    subst e1
    exact List.mem_iff_getElem.1 (hmem (hP.trans e2) hL)
  have HENC : Hid (∀ a b : Nat, (a, b) = (x, y) → enc a = enc x ∧ enc b = enc y) := fun a b e => by
    injection e with e1 e2; exact ⟨by rw [e1], by rw [e2]⟩
  have HXY := Lib.hid hP
  clear hmem hP hL HXY hxy hy hg1
  unfold ratV at HT1 HT2
  generalize enc x = s at *
  generalize enc y = t at *
  generalize enc fa = sa at *
  generalize enc fb = sb at *
  have HT1 := Lib.hid HT1
  have HT2 := Lib.hid HT2
  have HE := Lib.hid hE
  have HB := Lib.hid hB
  have hw1 : IntKind.i64.wrap (1000000007 * (L : Int)) = 1000000007 * (L : Int) := IntWalk.i64_in _ (by omega)
  have hw2 : IntKind.i64.wrap ((P : Int) + 1000000007 * (L : Int)) = (P : Int) + 1000000007 * (L : Int) := IntWalk.i64_in _ (by omega)
  have hw3 : IntKind.i64.wrap ((P : Int) + (L : Int)) = (P : Int) + (L : Int) := IntWalk.i64_in _ (by omega)
  clear hE hB
  unfold restC
  dsimp only [Try.f3, sndC, Option.getD, List.range, List.range.loop, List.foldl]
  obtain ⟨⟨⟨⟨x1, x2, x3, ⟨o1, x4⟩, x5⟩, y1, y2, y3, y4, y5⟩, v1, v2, v3, v4, v5, v6⟩, v7, v8, v9⟩ := HE.out
  gi_upto_region 31 with (first
    | (refine ⟨trivial, ?_⟩; gi_at_call 9; refine (callsIn_wide.2 (HT1.out _)).mono ?_; rintro e w1 ⟨rfl, B1⟩))
  have E1 := Lib.hid (HE.out.on (B1.alloced (o := .cells #[.bool false, .string sa, .string sb] 24)))
  have BB1 := Lib.hid (HB.out.on (B1.alloced (o := .cells #[.bool false, .string sa, .string sb] 24)))
  have R1 := Lib.hid (RX.new w1 sa sb 24)
  clear B1 x1 x2 x3 x4 x5 y1 y2 y3 y4 y5 v1 v2 v3 v4 v5 v6 v7 v8 v9 HE HB HT1
  generalize w1.alloc (.cells #[.bool false, .string sa, .string sb] 24) = w2 at *
  generalize w1.heap.size = b1 at *
  obtain ⟨⟨⟨⟨x1, x2, x3, ⟨o1, x4⟩, x5⟩, y1, y2, y3, y4, y5⟩, v1, v2, v3, v4, v5, v6⟩, v7, v8, v9⟩ := E1.out
  gi_upto_region 32 with (first
    | (refine ⟨trivial, ?_⟩; gi_at_call 9; refine (callsIn_wide.2 (HT2.out _)).mono ?_; rintro e w3 ⟨rfl, B3⟩))
  have E3 := Lib.hid (E1.out.on (B3.alloced (o := .cells #[.bool false, .string sa, .string sb] 24)))
  have BB3 := Lib.hid (BB1.out.on (B3.alloced (o := .cells #[.bool false, .string sa, .string sb] 24)))
  have R3 := Lib.hid (R1.out.on (B3.alloced (o := .cells #[.bool false, .string sa, .string sb] 24)))
  have R4 := Lib.hid (RX.new w3 sa sb 24)
  clear B3 x1 x2 x3 x4 x5 y1 y2 y3 y4 y5 v1 v2 v3 v4 v5 v6 v7 v8 v9 E1 BB1 HT2 R1
  generalize w3.alloc (.cells #[.bool false, .string sa, .string sb] 24) = w4 at *
  generalize w3.heap.size = b3 at *
  obtain ⟨⟨⟨⟨x1, x2, x3, ⟨o1, x4⟩, x5⟩, y1, y2, y3, y4, y5⟩, v1, v2, v3, v4, v5, v6⟩, v7, v8, v9⟩ := E3.out
  obtain ⟨r1, r2, r3, r4⟩ := R3.out
  obtain ⟨r5, r6, r7, r8⟩ := R4.out
  gi_upto_region 34 with (fail)
  have hDT := E3.out.done (.bool true)
  have BT := Lib.hid (BB3.out.trans (hDT.2.2.mono hgw))
  have HDT := Lib.hid hDT
  clear hDT
  by_cases hP0 : (P : Int) > 0
  · gi_wp2
    refine ⟨by simp, .inl ⟨_, _, rfl, run_takeDeferred HDT.out.1, ?_⟩⟩
    have hr := HDT.out.2.1
    exact ⟨_, by simp [results, go_sem, hr]; try rfl, rfl, BT.out⟩
  by_cases hL10 : (L : Int) > 10
  · gi_wp2
    refine ⟨by simp, .inl ⟨_, _, rfl, run_takeDeferred HDT.out.1, ?_⟩⟩
    have hr := HDT.out.2.1
    exact ⟨_, by simp [results, go_sem, hr]; try rfl, rfl, BT.out⟩
  by_cases hd22 : (d : Int) > 2
  · gi_wp2
    refine ⟨by simp, .inl ⟨_, _, rfl, run_takeDeferred HDT.out.1, ?_⟩⟩
    have hr := HDT.out.2.1
    exact ⟨_, by simp [results, go_sem, hr]; try rfl, rfl, BT.out⟩
  obtain rfl : d = 2 := by omega
  obtain rfl : P = 0 := by omega
  have hmem := HFL.out rfl rfl
  have HAL := Lib.hid fun W => all_of HMUL L hL0 (by omega) W
  generalize Fl (2 ^ L - 1) L (2 ^ L - 1) = F at *
  have HM := Lib.hid hmem
  clear hmem HFL r1 r2 r3 r4 r5 r6 r7 r8 R3 R4 HDT BT
  gi_upto_region 37 with (first
    | (refine ⟨trivial, ?_⟩; gi_at_call 10; refine (callsIn_wide.2 (HAL.out _)).mono ?_; rintro e w5 ⟨v, rfl, hrp⟩))
  have E5 := Lib.hid (E3.out.on hrp.below)
  have BB5 := Lib.hid (BB3.out.on hrp.below)
  obtain ⟨ao, cap, rfl, hrow⟩ := hrp.row
  have HRW := Lib.hid hrow
  have hcap := hrow.le
  have hcm := hrow.max
  unfold maxLen at hcm
  clear hrp hrow HAL E3 BB3 x1 x2 x3 x4 x5 y1 y2 y3 y4 y5 v1 v2 v3 v4 v5 v6 v7 v8 v9 hP2 hL2 hL0 hL10 hw1 hw2 hw3
  gi_upto_region 38 with (fail)
  gi_loopg [29] F.length (fun gh vi wr => ∃ i : Nat, i + gh = F.length ∧ vi = .int .i64 (i : Int) ∧ Hid (TE g q p D den ((2 : Nat) : Int) s t (((0 : Nat) : Int) + L) xv wr) ∧ Hid (RRow wr ao cap F) ∧ Hid (Below w0.heap.size w0 wr) ∧ Hid (∀ j (h : j < F.length), j < i → F[j] ≠ (x, y)))
  case atStart => exact ⟨0, by omega, rfl, E5.out, HRW.out, BB5.out, fun j h hj => absurd hj (Nat.not_lt_zero j)⟩
  case round =>
    obtain ⟨i, hi, rfl, HE, HR, HBW, HNO⟩ := hrel
    clear E5 HRW BB5
    obtain ⟨⟨⟨⟨x1, x2, x3, ⟨o1, x4⟩, x5⟩, y1, y2, y3, y4, y5⟩, v1, v2, v3, v4, v5, v6⟩, v7, v8, v9⟩ := HE.out
    by_cases hin : i < F.length
    · obtain ⟨b, rfl, hb, c1, c2, c3⟩ := HR.out.cell i hin
      rw [Nat.mul_comm] at c1 c2 c3
      have HNE := HENC.out F[i].1 F[i].2
      generalize hs1 : enc F[i].1 = s1 at *
      generalize ht1 : enc F[i].2 = t1 at *
      by_cases he : s1 = s ∧ t1 = t
      · obtain ⟨rfl, rfl⟩ := he
        clear HNE hs1 ht1
        gi_wp2
        gi_quiet (fail)
        have E7 := Lib.hid (HE.out.drewN nq)
        have BB7 := Lib.hid (below_drewN HBW.out nq)
        clear x1 x2 x3 x4 x5 y1 y2 y3 y4 y5 v1 v2 v3 v4 v5 v6 v7 v8 v9 HE HBW HR
        generalize wr.drewN nq = w7 at *
        obtain ⟨⟨⟨⟨x1, x2, x3, ⟨o1, x4⟩, x5⟩, y1, y2, y3, y4, y5⟩, v1, v2, v3, v4, v5, v6⟩, v7, v8, v9⟩ := E7.out
        have HDT := Lib.hid (E7.out.done (.bool true))
        have BT := Lib.hid (BB7.out.trans (HDT.out.2.2.mono hgw))
        gi_wp2
        refine ⟨by simp, .inl ⟨_, _, rfl, run_takeDeferred HDT.out.1, ?_⟩⟩
        have hr := HDT.out.2.1
        exact ⟨_, by simp [results, go_sem, hr]; try rfl, rfl, BT.out⟩
      · have hq : ∀ w, (Op.equalIn 10000 24 (.agg #[.bool false, .string s1, .string t1]) (.agg #[.bool false, .string s, .string t])).run Try.prog w = .ok false w := fun w => by
          rw [run_eq_ratio, decide_eq_false he]
        have HN2 : Hid (∀ j (h : j < F.length), j < i + 1 → F[j] ≠ (x, y)) := fun j hj hji e => by
          by_cases hjn : j = i
          · subst hjn; exact he (HNE e)
          · exact HNO.out j hj (by omega) e
        clear HNE hs1 ht1 he
        gi_wp2
        gi_quiet (fail)
        have E7 := HE.out.drewN nq
        have BB7 := below_drewN HBW.out nq
        have RR7 := HR.out.below (below_drewN (Below.refl wr.heap.size wr) nq)
        gi_wp2
        gi_roundg (F.length - (i + 1))
        case measure => omega
        case rel => exact ⟨i + 1, by omega, by go_num, E7, RR7, BB7, HN2.out⟩
    · obtain ⟨j, hj, e⟩ := HM.out
      exact absurd e (HNO.out j hj (by omega))
end Go.Proofs.Ytacpakmglmfgnaa
