/-
  One round of TopAngles's range.
-/
import Derived.Test.YtacpakmglmfgnaaTz
namespace Go.Proofs.Ytacpakmglmfgnaa
open Go.RowKit Go.Shelf
attribute [local go_sem] Oper.semAt_some run_eq_same

noncomputable def bodyOf : Code → Code | .seq (.seq _ (.block _ (.rangeFunc _ _ _ b))) _ => b | c => c
/-- The body of TopAngles's range. -/
noncomputable def roundC : Code := bodyOf (restC 14)
set_option maxRecDepth 100000 in
set_option maxHeartbeats 4000000 in
theorem top_round (l m : Nat) (hm1 : 1 ≤ m) (g q p Bx n den d k : Nat) (s t : ByteArray) (w0 W : World) (hden0 : 0 < den) (hden : den ≤ 3000) (hd2 : d ≤ 64)
    (hX : TX g q p (den : Nat) (d : Nat) s t (k : Nat) (xs n den d k : Nat) W) (hB : Below w0.heap.size w0 W) (hgw : w0.heap.size ≤ g) (hk : k < 10000) (hR : RX Bx (enc (px n den d k)) (enc (py n den d k)) W)
    (z0 z1 z2 z3 z4 z5 z8 z9 z10 z11 z12 z13 z14 z15 z16 z17 z18 z19 z20 z24 z25 z26 z27 z28 z29 z30 z31 z32 z33 z34 z35 z36 z37 z38 z39 z40 z41 z42 z43 z44 z45 z46 z47 z48 z49 z50 z51 z52 z53 z54 z55 z56 z57 z58 z59 z60 z61 z62 z63 z64 z65 z66 z67 z68 z69 z70 z71 z72 z73 z74 z75 z76 z77 z78 z79 z80 z81 z82 z83 z84 z85 z86 z87 z88 z89 z90 z91 z92 z93 z94 z95 z96 z97 z98 z99 z100 z101 z102 z103 z104 z105 z106 z107 z108 z109 z110 z111 z112 z113 z114 z115 z116 z117 z118 z119 z120 z121 z122 z123 z124 z125 z126 z127 z128 z129 z130 z131 z132 z133 z134 z135 z136 z137 z138 z139 z140 z141 z142 z143 z144 z145 z146 z147 z148 z149 z150 z151 z152 z153 z154 z155 z156 z157 z158 z159 z160 z161 z162 z163 z164 z165 z166 z167 z168 z169 z170 z171 z172 z173 z174 z175 z176 z177 z178 z179 z180 z181 z182 z183 z184 z185 z186 z187 z188 z189 z190 z191 z192 z193 z194 z195 z196 z197 z198 z199 z200 z201 z202 z203 z204 z205 z206 z207 z208 z209 z210 z211 z212 z213 z214 z215 z216 z217 z218 z219 z220 z221 z222 z223 z224 z225 z226 z227 z228 z229 z230 z231 z232 z233 z234 z235 z236 z237 z238 z239 z240 z241 z242 z243 z244 z245 z246 z247 z248 z249 z250 z251 z252 z253 z254 z255 z256 z257 z258 z259 z260 : Value) :
    roundC.wpIn (Fence.wide.inRound l) m Try.prog (runPost (p + 2) (fun W' => TX g q p (den : Nat) (d : Nat) s t ((k + 1 : Nat) : Nat) (xs n den d (k + 1) : Nat) W' ∧ Below w0.heap.size w0 W') W)
      ⟨[z0, z1, z2, z3, z4, z5, .pointer (some ⟨g, 0, none⟩), .pointer (some ⟨g + 1, 0, none⟩), z8, z9, z10, z11, z12, z13, z14, z15, z16, z17, z18, z19, z20, .pointer (some ⟨p, 0, none⟩), .pointer (some ⟨p + 1, 0, none⟩), .pointer (some ⟨Bx, 0, none⟩), z24, z25, z26, z27, z28, z29, z30, z31, z32, z33, z34, z35, z36, z37, z38, z39, z40, z41, z42, z43, z44, z45, z46, z47, z48, z49, z50, z51, z52, z53, z54, z55, z56, z57, z58, z59, z60, z61, z62, z63, z64, z65, z66, z67, z68, z69, z70, z71, z72, z73, z74, z75, z76, z77, z78, z79, z80, z81, z82, z83, z84, z85, z86, z87, z88, z89, z90, z91, z92, z93, z94, z95, z96, z97, z98, z99, z100, z101, z102, z103, z104, z105, z106, z107, z108, z109, z110, z111, z112, z113, z114, z115, z116, z117, z118, z119, z120, z121, z122, z123, z124, z125, z126, z127, z128, z129, z130, z131, z132, z133, z134, z135, z136, z137, z138, z139, z140, z141, z142, z143, z144, z145, z146, z147, z148, z149, z150, z151, z152, z153, z154, z155, z156, z157, z158, z159, z160, z161, z162, z163, z164, z165, z166, z167, z168, z169, z170, z171, z172, z173, z174, z175, z176, z177, z178, z179, z180, z181, z182, z183, z184, z185, z186, z187, z188, z189, z190, z191, z192, z193, z194, z195, z196, z197, z198, z199, z200, z201, z202, z203, z204, z205, z206, z207, z208, z209, z210, z211, z212, z213, z214, z215, z216, z217, z218, z219, z220, z221, z222, z223, z224, z225, z226, z227, z228, z229, z230, z231, z232, z233, z234, z235, z236, z237, z238, z239, z240, z241, z242, z243, z244, z245, z246, z247, z248, z249, z250, z251, z252, z253, z254, z255, z256, z257, z258, z259, z260].toArray, []⟩ W := by
  have hxl : xs n den d k < den := Nat.mod_lt _ hden0
  have hxs := xs_succ n den d k
  have HMK : ∀ W, Calls Try.prog 4 #[.int .i64 (xs n den d k : Nat), .int .i64 (den : Nat)] W fun e w' => e = .returned (.tuple #[ratV (px n den d k) (py n den d k), .int .i64 0]) ∧ Below W.heap.size W w' := fun W => make_any (xs n den d k) den hxl (by omega) W
  unfold ratV at HMK
  generalize enc (px n den d k) = s1 at *
  generalize enc (py n den d k) = t1 at *
  generalize xs n den d k = X at *
  generalize xs n den d (k + 1) = X1 at *
  have HMK := Lib.hid HMK
  have HX := Lib.hid hX
  have HB := Lib.hid hB
  have HR := Lib.hid hR
  clear hX hB hR
  have hqp := HX.out.gp
  have hgq := HX.out.ts.gt
  have hXd : X * d ≤ 3000 * 64 := Nat.mul_le_mul (by omega) hd2
  obtain ⟨z, hz⟩ : ∃ z, z = X * d := ⟨_, rfl⟩
  have hzi : (X : Int) * d = z := by rw [hz]; simp
  rw [← hz] at hXd hxs
  have g1 : IntKind.i64.wrap (z : Int) = z := IntWalk.i64_in _ (by omega)
  have g2 : (z : Int).tmod den = X1 := by rw [Int.tmod_eq_emod_of_nonneg (by omega), hxs]; rfl
  have g3 : (z : Int) % den = X1 := by rw [hxs]; rfl
  have g4 : ((den : Int) == 0) = false := by rw [beq_eq_false_iff_ne]; omega
  have g5 : ¬ (den : Int) = 0 := by omega
  have g6 : IntKind.i64.wrap ((k : Int) + 1) = (k : Int) + 1 := IntWalk.i64_in _ (by omega)
  clear hz hxs
  unfold roundC restC
  dsimp only [Try.f3, sndC, bodyOf, Option.getD, List.range, List.range.loop, List.foldl]
  obtain ⟨⟨⟨x1, x2, x3, ⟨o1, x4⟩, x5⟩, y1, y2, y3, y4, y5⟩, v1, v2, v3, v4, v5, v6⟩ := HX.out
  gi_upto_region 26 with (first
    | (refine ⟨trivial, ?_⟩; gi_at_call 4; refine (CallsIn.inRound l (callsIn_wide.2 (HMK.out _))).mono ?_; rintro e w1 ⟨rfl, B1⟩; have B2 := Lib.hid (B1.alloced (o := .cells #[.bool false, .string s1, .string t1] 24)); clear x1 x2 x3 x4 x5 y1 y2 y3 y4 y5 v1 v2 v3 v4 v5 v6; obtain ⟨⟨⟨x1, x2, x3, ⟨o1, x4⟩, x5⟩, y1, y2, y3, y4, y5⟩, v1, v2, v3, v4, v5, v6⟩ := (HX.out.on B1)))
  have X2 := Lib.hid (HX.out.on B2.out)
  have R2 := Lib.hid (HR.out.on B2.out)
  have R3 := Lib.hid (RX.new w1 s1 t1 24)
  have hs2 := B2.out.size
  have HBB := Lib.hid (HB.out.on (B2.out))
  clear B1 x1 x2 x3 x4 x5 y1 y2 y3 y4 y5 v1 v2 v3 v4 v5 v6
  generalize w1.alloc (.cells #[.bool false, .string s1, .string t1] 24) = w2 at *
  generalize w1.heap.size = B9 at *
  obtain ⟨⟨⟨x1, x2, x3, ⟨o1, x4⟩, x5⟩, y1, y2, y3, y4, y5⟩, v1, v2, v3, v4, v5, v6⟩ := X2.out
  obtain ⟨r1, r2, r3, r4⟩ := R2.out
  obtain ⟨r5, r6, r7, r8⟩ := R3.out
  gi_wp2
  obtain ⟨s1, s2, s3⟩ := X2.out.step ((k : Int) + 1) X1
  exact ⟨⟨s1, HBB.out.trans (s2.mono (by omega))⟩, Nat.le_trans hs2 s2.size, fun j h1 h2 => (s3 j h1).trans (B2.out.block j h2)⟩
end Go.Proofs.Ytacpakmglmfgnaa
