/-
  TopAngles from the count's box on.
-/
import Derived.Test.YtacpakmglmfgnaaTx
namespace Go.Proofs.Ytacpakmglmfgnaa
open Go.RowKit Go.Shelf
attribute [local go_sem] Oper.semAt_some

@[local go_sem] theorem run_eq_func (f : Fn) (b l : Array Value) (w : World) : (binOp .eql 34 (.func f b l) .nilFunc).run Try.prog w = .ok (.bool false) w := by
  have h : ∀ d : Nat, (Op.equalIn (d + 1) 34 (.func f b l) .nilFunc).run Try.prog w = .ok false w := fun d => by
    simp [Op.equalIn, run_underlying Try.underlying34, go_sem]
  have h2 : (Op.equalIn Op.maxDepth 34 (.func f b l) .nilFunc).run Try.prog w = .ok false w := h 9999
  simp [binOp, Op.equal, go_sem, h2]
set_option maxRecDepth 100000 in
set_option maxHeartbeats 4000000 in
theorem top_mid (HMUL : MulSays) (k : Nat) (hk3 : 3 ≤ k) (g q n den d P L : Nat) (w0 W : World) (hn : n < den) (hden : den ≤ 3000) (hd1 : 2 ≤ d) (hd2 : d ≤ 64) (hP : (kindA (py n den d 0) d).1 = P) (hL : (kindA (py n den d 0) d).2 = L)
    (hS : TS g q (den : Nat) (d : Nat) (enc (px n den d 0)) (enc (py n den d 0)) W) (hB : Below w0.heap.size w0 W) (hgw : w0.heap.size ≤ g)
    (z1 z2 z3 z4 z5 z10 z13 z14 z15 z16 z17 z18 z19 z20 z21 z22 z23 z24 z25 z26 z27 z28 z29 z30 z31 z32 z33 z34 z35 z36 z37 z38 z39 z40 z41 z42 z43 z44 z45 z46 z47 z48 z49 z50 z51 z52 z53 z54 z55 z56 z57 z58 z59 z60 z61 z62 z63 z64 z65 z66 z67 z68 z69 z70 z71 z72 z73 z74 z75 z76 z77 z78 z79 z80 z81 z82 z83 z84 z85 z86 z87 z88 z89 z90 z91 z92 z93 z94 z95 z96 z97 z98 z99 z100 z101 z102 z103 z104 z105 z106 z107 z108 z109 z110 z111 z112 z113 z114 z115 z116 z117 z118 z119 z120 z121 z122 z123 z124 z125 z126 z127 z128 z129 z130 z131 z132 z133 z134 z135 z136 z137 z138 z139 z140 z141 z142 z143 z144 z145 z146 z147 z148 z149 z150 z151 z152 z153 z154 z155 z156 z157 z158 z159 z160 z161 z162 z163 z164 z165 z166 z167 z168 z169 z170 z171 z172 z173 z174 z175 z176 z177 z178 z179 z180 z181 z182 z183 z184 z185 z186 z187 z188 z189 z190 z191 z192 z193 z194 z195 z196 z197 z198 z199 z200 z201 z202 z203 z204 z205 z206 z207 z208 z209 z210 z211 z212 z213 z214 z215 z216 z217 z218 z219 z220 z221 z222 z223 z224 z225 z226 z227 z228 z229 z230 z231 z232 z233 z234 z235 z236 z237 z238 z239 z240 z241 z242 z243 z244 z245 z246 z247 z248 z249 z250 z251 z252 z253 z254 z255 z256 z257 z258 z259 z260 : Value) :
    (restC 11).wpIn Fence.wide k Try.prog (bodyPostM Fence.wide k Try.prog Try.f3 fun e w' => e = .returned (.bool true) ∧ Below w0.heap.size w0 w')
      ⟨[.int .i64 (n : Nat), z1, z2, z3, z4, z5, .pointer (some ⟨g, 0, none⟩), .pointer (some ⟨g + 1, 0, none⟩), .pointer (some ⟨g + 2, 0, none⟩), .pointer (some ⟨q, 0, none⟩), z10, .int .i64 (P : Nat), .int .i64 (L : Nat), z13, z14, z15, z16, z17, z18, z19, z20, z21, z22, z23, z24, z25, z26, z27, z28, z29, z30, z31, z32, z33, z34, z35, z36, z37, z38, z39, z40, z41, z42, z43, z44, z45, z46, z47, z48, z49, z50, z51, z52, z53, z54, z55, z56, z57, z58, z59, z60, z61, z62, z63, z64, z65, z66, z67, z68, z69, z70, z71, z72, z73, z74, z75, z76, z77, z78, z79, z80, z81, z82, z83, z84, z85, z86, z87, z88, z89, z90, z91, z92, z93, z94, z95, z96, z97, z98, z99, z100, z101, z102, z103, z104, z105, z106, z107, z108, z109, z110, z111, z112, z113, z114, z115, z116, z117, z118, z119, z120, z121, z122, z123, z124, z125, z126, z127, z128, z129, z130, z131, z132, z133, z134, z135, z136, z137, z138, z139, z140, z141, z142, z143, z144, z145, z146, z147, z148, z149, z150, z151, z152, z153, z154, z155, z156, z157, z158, z159, z160, z161, z162, z163, z164, z165, z166, z167, z168, z169, z170, z171, z172, z173, z174, z175, z176, z177, z178, z179, z180, z181, z182, z183, z184, z185, z186, z187, z188, z189, z190, z191, z192, z193, z194, z195, z196, z197, z198, z199, z200, z201, z202, z203, z204, z205, z206, z207, z208, z209, z210, z211, z212, z213, z214, z215, z216, z217, z218, z219, z220, z221, z222, z223, z224, z225, z226, z227, z228, z229, z230, z231, z232, z233, z234, z235, z236, z237, z238, z239, z240, z241, z242, z243, z244, z245, z246, z247, z248, z249, z250, z251, z252, z253, z254, z255, z256, z257, z258, z259, z260].toArray, []⟩ W := by
  have h1k : 1 ≤ k := by omega
  have hx0 : xs n den d 0 = n := by unfold xs; rw [Nat.pow_zero, Nat.mul_one, Nat.mod_eq_of_lt hn]
  have HX0 := Lib.hid (TX.new hS 0 (n : Nat))
  have HX := Lib.hid HX0.out.1
  have HB := Lib.hid (hB.on HX0.out.2)
  have HP := Lib.hid hP
  have HL := Lib.hid hL
  have HX1 := Lib.hid hx0
  clear HX0 hB hP hL hx0
  have hr : restC 11 = .seq (fstC (restC 11)) (.seq (fstC (restC 12)) (.seq (fstC (restC 13)) (restC 14))) := rfl
  rw [hr]
  clear hr
  generalize hs0 : enc (px n den d 0) = s0 at *
  generalize ht0 : enc (py n den d 0) = t0 at *
  generalize hQ : bodyPostM Fence.wide k Try.prog Try.f3 (fun e w' => e = .returned (.bool true) ∧ Below w0.heap.size w0 w') = Q
  generalize hC : restC 14 = C
  unfold restC
  dsimp only [Try.f3, fstC, sndC, Option.getD, List.range, List.range.loop, List.foldl]
  gi_upto_region 21 with (fail)
  clear hS
  generalize (W.alloc (.cells #[.int .i64 0] 3)).alloc (.cells #[.int .i64 (n : Nat)] 3) = w2 at *
  generalize W.heap.size = p at *
  obtain ⟨⟨⟨x1, x2, x3, ⟨o1, x4⟩, x5⟩, y1, y2, y3, y4, y5⟩, v1, v2, v3, v4, v5, v6⟩ := HX.out
  gi_wp2_with (first
    | (refine ⟨trivial, ?_⟩; gi_at_call 8; refine (orbit_in _ _ _ _ _).mono ?_; rintro e w3 ⟨rfl, rfl⟩))
  have BO := (alloc_below w2 (.cells #[.bool false, .string s0, .string t0] 24)).on (alloc_below _ (.cells #[.int .i64 (d : Nat)] 3))
  rw [← hC, ← hQ]
  subst hs0 ht0
  exact top_range HMUL k hk3 g q p n den d P L w0 _ hn hden hd1 hd2 HP.out HL.out (by rw [HX1.out]; exact HX.out.on BO) (HB.out.trans (BO.mono (by have := HB.out.size; omega))) hgw _ _ _ _ _ _ _ _ _ _ _ _ _ _ _ _ _ _ _ _ _ _ _ _ _ _ _ _ _ _ _ _ _ _ _ _ _ _ _ _ _ _ _ _ _ _ _ _ _ _ _ _ _ _ _ _ _ _ _ _ _ _ _ _ _ _ _ _ _ _ _ _ _ _ _ _ _ _ _ _ _ _ _ _ _ _ _ _ _ _ _ _ _ _ _ _ _ _ _ _ _ _ _ _ _ _ _ _ _ _ _ _ _ _ _ _ _ _ _ _ _ _ _ _ _ _ _ _ _ _ _ _ _ _ _ _ _ _ _ _ _ _ _ _ _ _ _ _ _ _ _ _ _ _ _ _ _ _ _ _ _ _ _ _ _ _ _ _ _ _ _ _ _ _ _ _ _ _ _ _ _ _ _ _ _ _ _ _ _ _ _ _ _ _ _ _ _ _ _ _ _ _ _ _ _ _ _ _ _ _ _ _ _ _ _ _ _ _ _ _ _ _ _ _ _ _ _ _ _ _ _ _ _ _ _ _ _ _ _ _ _ _ _ _ _ _ _ _ _ _ _ _ _
end Go.Proofs.Ytacpakmglmfgnaa
