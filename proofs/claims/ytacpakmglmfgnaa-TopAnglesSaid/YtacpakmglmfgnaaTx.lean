/-
  TopAngles's range, and on to the end.
-/
import Derived.Test.YtacpakmglmfgnaaTy
namespace Go.Proofs.Ytacpakmglmfgnaa
open Go.RowKit Go.Shelf
attribute [local go_sem] Oper.semAt_some

theorem RX.kf {b lo : Nat} {s t : ByteArray} {A B : World} (h : RX b s t A) (k : KF lo A B) (hl : lo ≤ b) : RX b s t B :=
  ⟨Nat.lt_of_lt_of_le h.lt k.size, k.cell hl h.c0, k.cell hl h.c1, k.cell hl h.c2⟩
theorem ob_new (d : Nat) (s t : ByteArray) (w : World) :
    OB w.heap.size (w.heap.size + 1) s t d ((w.alloc (.cells #[.bool false, .string s, .string t] 24)).alloc (.cells #[.int .i64 (d : Nat)] 3)) := by
  have s1 : (w.alloc (.cells #[.bool false, .string s, .string t] 24)).heap.size = w.heap.size + 1 := World.size_alloc _ _
  have r := (RX.new w s t 24).on (alloc_below (w.alloc (.cells #[.bool false, .string s, .string t] 24)) (.cells #[.int .i64 (d : Nat)] 3))
  have c := one_new (w.alloc (.cells #[.bool false, .string s, .string t] 24)) (.int .i64 (d : Nat)) 3
  rw [s1] at c
  exact ⟨r.lt, by rw [World.size_alloc, s1]; omega, r.c0, r.c1, r.c2, c⟩
set_option maxRecDepth 100000 in
set_option maxHeartbeats 4000000 in
theorem top_range (HMUL : MulSays) (k : Nat) (hk3 : 3 ≤ k) (g q p n den d P L : Nat) (w0 W : World) (hn : n < den) (hden : den ≤ 3000) (hd1 : 2 ≤ d) (hd2 : d ≤ 64) (hP : (kindA (py n den d 0) d).1 = P) (hL : (kindA (py n den d 0) d).2 = L)
    (hX : TX g q p (den : Nat) (d : Nat) (enc (px n den d 0)) (enc (py n den d 0)) (0 : Nat) (xs n den d 0 : Nat) W) (hB : Below w0.heap.size w0 W) (hgw : w0.heap.size ≤ g)
    (z0 z1 z2 z3 z4 z5 z10 z13 z14 z15 z16 z17 z18 z19 z20 z23 z24 z25 z26 z27 z28 z29 z30 z31 z32 z33 z34 z35 z36 z37 z38 z39 z40 z41 z42 z43 z44 z45 z46 z47 z48 z49 z50 z51 z52 z53 z54 z55 z56 z57 z58 z59 z60 z61 z62 z63 z64 z65 z66 z67 z68 z69 z70 z71 z72 z73 z74 z75 z76 z77 z78 z79 z80 z81 z82 z83 z84 z85 z86 z87 z88 z89 z90 z91 z92 z93 z94 z95 z96 z97 z98 z99 z100 z101 z102 z103 z104 z105 z106 z107 z108 z109 z110 z111 z112 z113 z114 z115 z116 z117 z118 z119 z120 z121 z122 z123 z124 z125 z126 z127 z128 z129 z130 z131 z132 z133 z134 z135 z136 z137 z138 z139 z140 z141 z142 z143 z144 z145 z146 z147 z148 z149 z150 z151 z152 z153 z154 z155 z156 z157 z158 z159 z160 z161 z162 z163 z164 z165 z166 z167 z168 z169 z170 z171 z172 z173 z174 z175 z176 z177 z178 z179 z180 z181 z182 z183 z184 z185 z186 z187 z188 z189 z190 z191 z192 z193 z194 z195 z196 z197 z198 z199 z200 z201 z202 z203 z204 z205 z206 z207 z208 z209 z210 z211 z212 z213 z214 z215 z216 z217 z218 z219 z220 z221 z222 z223 z224 z225 z226 z227 z228 z229 z230 z231 z232 z233 z234 z235 z236 z237 z238 z239 z240 z241 z242 z243 z244 z245 z246 z247 z248 z249 z250 z251 z252 z253 z254 z255 z256 z257 z258 z259 z260 : Value) :
    (restC 14).wpIn Fence.wide k Try.prog (bodyPostM Fence.wide k Try.prog Try.f3 fun e w' => e = .returned (.bool true) ∧ Below w0.heap.size w0 w')
      ⟨[z0, z1, z2, z3, z4, z5, .pointer (some ⟨g, 0, none⟩), .pointer (some ⟨g + 1, 0, none⟩), .pointer (some ⟨g + 2, 0, none⟩), .pointer (some ⟨q, 0, none⟩), z10, .int .i64 (P : Nat), .int .i64 (L : Nat), z13, z14, z15, z16, z17, z18, z19, z20, .pointer (some ⟨p, 0, none⟩), .pointer (some ⟨p + 1, 0, none⟩), z23, z24, z25, z26, z27, z28, z29, z30, z31, z32, z33, z34, z35, z36, z37, z38, z39, z40, z41, z42, z43, z44, z45, z46, z47, z48, z49, z50, z51, z52, z53, z54, z55, z56, z57, z58, z59, z60, z61, z62, z63, z64, z65, z66, z67, z68, z69, z70, z71, z72, z73, z74, z75, z76, z77, z78, z79, z80, z81, z82, z83, z84, z85, z86, z87, z88, z89, z90, z91, z92, z93, z94, z95, z96, z97, z98, z99, z100, z101, z102, z103, z104, z105, z106, z107, z108, z109, z110, z111, z112, z113, z114, z115, z116, z117, z118, z119, z120, z121, z122, z123, z124, z125, z126, z127, z128, z129, z130, z131, z132, z133, z134, z135, z136, z137, z138, z139, z140, z141, z142, z143, z144, z145, z146, z147, z148, z149, z150, z151, z152, z153, z154, z155, z156, z157, z158, z159, z160, z161, z162, z163, z164, z165, z166, z167, z168, z169, z170, z171, z172, z173, z174, z175, z176, z177, z178, z179, z180, z181, z182, z183, z184, z185, z186, z187, z188, z189, z190, z191, z192, z193, z194, z195, z196, z197, z198, z199, z200, z201, z202, z203, z204, z205, z206, z207, z208, z209, z210, z211, z212, z213, z214, z215, z216, z217, z218, z219, z220, z221, z222, z223, z224, z225, z226, z227, z228, z229, z230, z231, z232, z233, z234, z235, z236, z237, z238, z239, z240, z241, z242, z243, z244, z245, z246, z247, z248, z249, z250, z251, z252, z253, z254, z255, z256, z257, z258, z259, z260].toArray, []⟩ W := by
  have hb0 := pxy_bd n den d 0 (by omega)
  have hkl := kind_le (d := d) (D := py n den d 0) (by omega) (by omega)
  rw [hP, hL] at hkl
  have h1k : 1 ≤ k := by omega
  have HX := Lib.hid hX
  have HB := Lib.hid hB
  have HO := Lib.hid (ob_new d (enc (px n den d 0)) (enc (py n den d 0)) W)
  have BO := Lib.hid ((alloc_below W (.cells #[.bool false, .string (enc (px n den d 0)), .string (enc (py n den d 0))] 24)).on (alloc_below _ (.cells #[.int .i64 (d : Nat)] 3)))
  clear hX hB
  obtain ⟨⟨⟨x1, x2, x3, ⟨o1, x4⟩, x5⟩, y1, y2, y3, y4, y5⟩, v1, v2, v3, v4, v5, v6⟩ := HX.out
  generalize hs0 : enc (px n den d 0) = s0 at *
  generalize ht0 : enc (py n den d 0) = t0 at *
  generalize hQ : bodyPostM Fence.wide k Try.prog Try.f3 (fun e w' => e = .returned (.bool true) ∧ Below w0.heap.size w0 w') = Q
  unfold restC
  dsimp only [Try.f3, sndC, Option.getD, List.range, List.range.loop, List.foldl]
  gi_wp2_with (first
    | (refine ⟨trivial, ?_⟩; gi_at_call 8; refine (orbit_in _ _ _ _ _).mono ?_; rintro e w1 ⟨rfl, rfl⟩))
  have X2 := HX.out.on BO.out
  have B2 := HB.out.on BO.out
  have hb2 := HB.out.size
  have HO2 := HO.out
  have hp2 := HX.out.lt
  have hs2 := BO.out.size
  clear x1 x2 x3 x4 x5 y1 y2 y3 y4 y5 v2 v3 v4 v5 v6 HX HB HO BO
  rename_i K HK
  generalize (W.alloc (.cells #[.bool false, .string s0, .string t0] 24)).alloc (.cells #[.int .i64 (d : Nat)] 3) = w2 at *
  have hqp := X2.gp
  have hgq := X2.ts.gt
  obtain ⟨Frm, hFrm⟩ : ∃ Frm : Nat → Nat → Act, Frm = fun k Bx => ⟨[z0, z1, z2, z3, z4, z5, .pointer (some ⟨g, 0, none⟩), .pointer (some ⟨g + 1, 0, none⟩), .pointer (some ⟨g + 2, 0, none⟩), .pointer (some ⟨q, 0, none⟩), z10, .int .i64 (P : Nat), .int .i64 (L : Nat), z13, z14, z15, z16, z17, z18, z19, z20, .pointer (some ⟨p, 0, none⟩), .pointer (some ⟨p + 1, 0, none⟩), .pointer (some ⟨Bx, 0, none⟩), z24, z25, z26, z27, z28, z29, z30, z31, z32, z33, z34, z35, z36, z37, z38, z39, z40, z41, z42, z43, z44, z45, z46, z47, z48, z49, z50, z51, z52, z53, z54, z55, z56, z57, z58, z59, z60, z61, z62, z63, z64, z65, z66, z67, z68, z69, z70, z71, z72, z73, z74, z75, z76, z77, z78, z79, z80, z81, z82, z83, z84, z85, z86, z87, z88, z89, z90, z91, z92, z93, z94, z95, z96, z97, z98, z99, z100, z101, z102, z103, z104, z105, z106, z107, z108, z109, z110, z111, z112, z113, z114, z115, z116, z117, z118, z119, z120, z121, z122, z123, z124, z125, z126, z127, z128, z129, z130, z131, z132, z133, z134, z135, z136, z137, z138, z139, z140, z141, z142, z143, z144, z145, z146, z147, z148, z149, z150, z151, z152, z153, z154, z155, z156, z157, z158, z159, z160, z161, z162, z163, z164, z165, z166, z167, z168, z169, z170, z171, .agg #[.bool false, .string s0, .string t0], .int .i64 (d : Nat), .func (.func 16) #[] #[.pointer (some ⟨W.heap.size, 0, none⟩), .pointer (some ⟨W.heap.size + 1, 0, none⟩)], ratV (px n den d k) (py n den d k), z176, z177, z178, z179, z180, z181, z182, z183, z184, z185, z186, z187, z188, z189, z190, z191, z192, z193, z194, z195, z196, z197, z198, z199, z200, z201, z202, z203, z204, z205, z206, z207, z208, z209, z210, z211, z212, z213, z214, z215, z216, z217, z218, z219, z220, z221, z222, z223, z224, z225, z226, z227, z228, z229, z230, z231, z232, z233, z234, z235, z236, z237, z238, z239, z240, z241, z242, z243, z244, z245, z246, z247, z248, z249, z250, z251, z252, z253, z254, z255, z256, z257, z258, z259, z260].toArray, []⟩ := ⟨_, rfl⟩
  refine range_runs (N := P + L) (gf := 16) (lb := #[.pointer (some ⟨W.heap.size, 0, none⟩), .pointer (some ⟨W.heap.size + 1, 0, none⟩)]) h1k rfl (enters_of Try.func16 (by kernel_rfl) rfl) (p + 2) (by omega)
    (fun k => #[ratV (px n den d k) (py n den d k)]) (fun _ => rfl) ?seq
    (fun k W' => TX g q p (den : Nat) (d : Nat) s0 t0 (k : Nat) (xs n den d k : Nat) W' ∧ Below w0.heap.size w0 W') ?hI ⟨X2, B2⟩
    (fun k a' W' => ∃ Bx, w2.heap.size ≤ Bx ∧ RX Bx (enc (px n den d k)) (enc (py n den d k)) W' ∧ a' = Frm k Bx) ?hAx ?assign ?body ?done
  case assign =>
    rintro l k W' K hsz _ hK
    unfold ratV
    gi_wp2
    refine hK _ _ (alloc_below _ _) ⟨W'.heap.size, hsz, RX.new _ _ _ _, ?_⟩
    rw [hFrm]
    rfl
  case seq =>
    rintro l J W' hB hab hY h0
    exact orbit1_in (k - 1) (by omega) l n den d W.heap.size (W.heap.size + 1) (p + 2) (P + L) hn hden hd1 hd2 (by rw [hP, hL]) J W' hab hY (by omega) (by rw [hs0, ht0]; exact HO2.on (hB.mono (Nat.le_refl _))) h0
  case hI =>
    rintro k A B hB ⟨ha, hb⟩
    exact ⟨ha.up (by omega) hB, hb.trans (hB.mono (by omega))⟩
  case hAx =>
    rintro k a' A B hk ⟨Bx, h1, h2, h3⟩
    exact ⟨Bx, h1, h2.kf hk h1, h3⟩
  case body =>
    rintro l k a' W' hk hsz ⟨hX, hB⟩ ⟨Bx, h1, h2, rfl⟩
    rw [hFrm]
    exact top_round l _ (by omega) g q p Bx n den d k s0 t0 w0 W' (by omega) hden hd2 hX hB hgw (by omega) h2 _ _ _ _ _ _ _ _ _ _ _ _ _ _ _ _ _ _ _ _ _ _ _ _ _ _ _ _ _ _ _ _ _ _ _ _ _ _ _ _ _ _ _ _ _ _ _ _ _ _ _ _ _ _ _ _ _ _ _ _ _ _ _ _ _ _ _ _ _ _ _ _ _ _ _ _ _ _ _ _ _ _ _ _ _ _ _ _ _ _ _ _ _ _ _ _ _ _ _ _ _ _ _ _ _ _ _ _ _ _ _ _ _ _ _ _ _ _ _ _ _ _ _ _ _ _ _ _ _ _ _ _ _ _ _ _ _ _ _ _ _ _ _ _ _ _ _ _ _ _ _ _ _ _ _ _ _ _ _ _ _ _ _ _ _ _ _ _ _ _ _ _ _ _ _ _ _ _ _ _ _ _ _ _ _ _ _ _ _ _ _ _ _ _ _ _ _ _ _ _ _ _ _ _ _ _ _ _ _ _ _ _ _ _ _ _ _ _ _ _ _ _ _ _ _ _ _ _ _ _ _ _ _ _ _ _ _ _ _ _ _ _ _ _ _ _ _ _ _ _ _ _ _ _ _ _
  case done =>
    rintro W' hsz ⟨hX, hB⟩ hd
    have E9 : TE g q p w2.heap.size (den : Nat) (d : Nat) s0 t0 ((P : Int) + L) (xs n den d (P + L) : Nat) W' := ⟨by rw [← Int.natCast_add]; exact hX, hsz, by omega, hd⟩
    subst hs0 ht0
    refine HK _ _ ?_
    rw [← hQ]
    exact top_end HMUL k h1k g q p w2.heap.size (px n den d 0) (py n den d 0) d P L (den : Nat) _ w0 W' hb0.1 (by omega) hb0.2.2 hd1 hd2 hP hL E9 hB hgw _ _ _ _ _ _ _ _ _ _ _ _ _ _ _ _ _ _ _ _ _ _ _ _ _ _ _ _ _ _ _ _ _ _ _ _ _ _ _ _ _ _ _ _ _ _ _ _ _ _ _ _ _ _ _ _ _ _ _ _ _ _ _ _ _ _ _ _ _ _ _ _ _ _ _ _ _ _ _ _ _ _ _ _ _ _ _ _ _ _ _ _ _ _ _ _ _ _ _ _ _ _ _ _ _ _ _ _ _ _ _ _ _ _ _ _ _ _ _ _ _ _ _ _ _ _ _ _ _ _ _ _ _ _ _ _ _ _ _ _ _ _ _ _ _ _ _ _ _ _ _ _ _ _ _ _ _ _ _ _ _ _ _ _ _ _ _ _ _ _ _ _ _ _ _ _ _ _ _ _ _ _ _ _ _ _ _ _ _ _ _ _ _ _ _ _ _ _ _ _ _ _ _ _ _ _ _ _ _ _ _ _ _ _ _ _ _ _ _ _ _ _ _ _ _ _ _ _ _ _ _ _ _ _ _ _ _ _ _ _ _ _ _ _ _ _ _ _ _ _ _ _ _ _ _
end Go.Proofs.Ytacpakmglmfgnaa
