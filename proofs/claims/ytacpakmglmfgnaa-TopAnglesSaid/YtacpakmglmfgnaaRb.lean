/-
  angle.small, ratioOf, told, Make.
-/
import Derived.Test.YtacpakmglmfgnaaRa
namespace Go.Proofs.Ytacpakmglmfgnaa
open Go.RowKit

/-- The frame of small: the box, and the result's two cells. -/
structure SM (w0 : World) (s t : ByteArray) (W : World) : Prop where
  x : RB w0 s t W
  r : Rec W (w0.heap.size + 1)
theorem SM.off {w0 w w' : World} {s t : ByteArray} (h : SM w0 s t w) (hb : Below w.heap.size w w') : SM w0 s t w' := ⟨h.x.off hb, h.r.on hb h.r.lt⟩
theorem SM.drewN {w0 w : World} {s t : ByteArray} (h : SM w0 s t w) (n : Nat) : SM w0 s t (w.drewN n) := ⟨h.x.drewN n, h.r.drewN n⟩
theorem SM.new (w : World) (s t : ByteArray) (u0 u1 : Value) (e : TypeId) : SM w s t ((w.alloc (.cells #[.bool false, .string s, .string t] 24)).alloc (.cells #[u0, u1] e)) :=
  ⟨(RB.new w s t).off (alloc_below _ _), by have := rec_new (w.alloc (.cells #[.bool false, .string s, .string t] 24)) u0 u1 e; rw [World.size_alloc] at this; exact this⟩
theorem small_num (x : Nat) (h : x < 4294967296) (W : World) :
    Calls Try.prog 25 #[.string (enc x)] W fun e w' => e = .returned (.tuple #[.int .u64 (x : Nat), .bool true]) ∧ Below W.heap.size W w' := by
  have := Small_any (enc x) W (by have := enc_small x h; unfold maxLen; omega)
  rw [if_pos ⟨enc_ok x h, by have := enc_small x h; omega⟩, bval_enc] at this
  exact this
set_option maxHeartbeats 1000000 in
set_option maxRecDepth 20000 in
theorem small_any (a b : Nat) (hab : a < b) (hb : b ≤ 2147483647) (hg : Nat.gcd a b = 1) (w : World) :
    Calls Try.prog 13 #[ratV a b] w fun e w' => e = .returned (.tuple #[partV a b, .bool true]) ∧ Below w.heap.size w w' := by
  have HM := Lib.hid fun W => rmay_any a b (by omega) (by omega) (by omega) hg W
  have HA := Lib.hid fun W => small_num a (by omega) W
  have HB := Lib.hid fun W => small_num b (by omega) W
  have X0 := Lib.hid (SM.new w (enc a) (enc b) (.int .u64 0) (.int .u64 0) 44)
  have hn : ¬ (a : Int) ≥ b := by omega
  have hn2 : ¬ (b : Int) > 2147483647 := by omega
  unfold ratV at HM ⊢
  unfold partV
  clear hg
  generalize enc a = s at *
  generalize enc b = t at *
  go_enter Try.func13, Try.ntmps13
  go_upto_region 3 with (first
    | (go_at_call 24; refine (HM.out _).mono ?_; rintro e w1 ⟨rfl, B1⟩; have X1 := Lib.hid (X0.out.off B1); have k0 := X1.out.x.c0; have k1 := X1.out.x.c1; have k2 := X1.out.x.c2))
  go_upto_region 4 with (first
    | (go_at_call 25; refine (HA.out _).mono ?_; rintro e w2 ⟨rfl, B2⟩; have X2 := Lib.hid (X1.out.off B2); have m0 := X2.out.x.c0; have m1 := X2.out.x.c1; have m2 := X2.out.x.c2))
  go_wp2_with (first
    | (go_at_call 25; refine (HB.out _).mono ?_; rintro e w3 ⟨rfl, B3⟩; have X3 := Lib.hid (X2.out.off B3); have n0 := X3.out.x.c0; have n1 := X3.out.x.c1; have n2 := X3.out.x.c2; have R3 := X3.out.r; obtain ⟨o0, p0⟩ := R3.c0; obtain ⟨o1, p1⟩ := R3.c1; have f0 := R3.f 0; have f1 := R3.f 1; have hin := two_set w3 (w.heap.size + 1) (.int .u64 (a : Nat)) (.int .u64 (b : Nat)) _ _ p0 p1; have HIN := Lib.hid hin; clear hin R3))
  obtain ⟨r0, r1, hB⟩ := HIN.out
  have HBB := Lib.hid (X3.out.x.B.trans (hB w.heap.size (by omega)))
  clear hB HIN
  generalize (w3.setCell ⟨w.heap.size + 1, 0, none⟩ (.int .u64 (a : Nat))).setCell ⟨w.heap.size + 1, 1, none⟩ (.int .u64 (b : Nat)) = w9 at *
  refine bodyPost_ret (by simp [results, Try.results13, go_sem, r0, r1]; try rfl) rfl ?_
  exact ⟨rfl, HBB.out⟩
/-- Three cells written. -/
theorem three_set (w : World) (g : Nat) (v0 v1 v2 o0 o1 o2 : Value) (h0 : w.cell? ⟨g, 0, none⟩ = some o0) (h1 : w.cell? ⟨g, 1, none⟩ = some o1) (h2 : w.cell? ⟨g, 2, none⟩ = some o2) :
    (((w.setCell ⟨g, 0, none⟩ v0).setCell ⟨g, 1, none⟩ v1).setCell ⟨g, 2, none⟩ v2).cell? ⟨g, 0, none⟩ = some v0 ∧ (((w.setCell ⟨g, 0, none⟩ v0).setCell ⟨g, 1, none⟩ v1).setCell ⟨g, 2, none⟩ v2).cell? ⟨g, 1, none⟩ = some v1 ∧
    (((w.setCell ⟨g, 0, none⟩ v0).setCell ⟨g, 1, none⟩ v1).setCell ⟨g, 2, none⟩ v2).cell? ⟨g, 2, none⟩ = some v2 ∧
    ∀ B, B ≤ g → Below B w (((w.setCell ⟨g, 0, none⟩ v0).setCell ⟨g, 1, none⟩ v1).setCell ⟨g, 2, none⟩ v2) := by
  obtain ⟨a0, a1, aB⟩ := two_set w g v0 v1 o0 o1 h0 h1
  have a2 : ((w.setCell ⟨g, 0, none⟩ v0).setCell ⟨g, 1, none⟩ v1).cell? ⟨g, 2, none⟩ = some o2 := by rw [cell_off _ _ _ _ _ (by omega), cell_off _ _ _ _ _ (by omega)]; exact h2
  exact ⟨by rw [cell_off _ _ _ _ _ (by omega)]; exact a0, by rw [cell_off _ _ _ _ _ (by omega)]; exact a1, World.cell?_setCell_same _ _ _ a2, fun B hB => (aB B hB).setCell hB _⟩
theorem cell_set3 (w : World) (g b i : Nat) (u v z : Value) (h : b ≠ g) : (((w.setCell ⟨g, 0, none⟩ u).setCell ⟨g, 1, none⟩ v).setCell ⟨g, 2, none⟩ z).cell? ⟨b, i, none⟩ = w.cell? ⟨b, i, none⟩ := by
  have h1 := World.cell?_of_block (a := ⟨b, i, none⟩) (Below.heap_setCell ((w.setCell ⟨g, 0, none⟩ u).setCell ⟨g, 1, none⟩ v) ⟨g, 2, none⟩ z b h)
  rw [h1]
  exact cell_set2 w g b i u v h
/-- Where a fraction may be written. -/
structure Rec3 (w : World) (b : Nat) : Prop where
  r : Rec w b
  c2 : ∃ o, w.cell? ⟨b, 2, none⟩ = some o
theorem Rec3.on {C : Nat} {w w' : World} {b : Nat} (h : Rec3 w b) (hb : Below C w w') (hC : b < C) : Rec3 w' b := by
  obtain ⟨o, ho⟩ := h.c2
  exact ⟨h.r.on hb hC, o, (hb.cell (p := ⟨b, 2, none⟩) hC).trans ho⟩
theorem Rec3.drewN {w : World} {b : Nat} (h : Rec3 w b) (n : Nat) : Rec3 (w.drewN n) b := ⟨h.r.drewN n, h.c2⟩
theorem rec3_new (w : World) (o0 o1 o2 : Value) (t : TypeId) : Rec3 (w.alloc (.cells #[o0, o1, o2] t)) w.heap.size := by
  have c : ∀ i, (w.alloc (.cells #[o0, o1, o2] t)).cell? ⟨w.heap.size, i, none⟩ = #[o0, o1, o2][i]? := fun i => World.cell?_alloc_at _ _ _ _ rfl
  exact ⟨⟨by simp, ⟨o0, c 0⟩, ⟨o1, c 1⟩, fun i => newf w _ t _ i rfl⟩, ⟨o2, c 2⟩⟩
/-- The frame of ratioOf: the box of the part, the result's three cells. -/
structure RM (w0 : World) (a b : Nat) (W : World) : Prop where
  lt : w0.heap.size < W.heap.size
  c0 : W.cell? ⟨w0.heap.size, 0, none⟩ = some (.int .u64 (a : Nat))
  c1 : W.cell? ⟨w0.heap.size, 1, none⟩ = some (.int .u64 (b : Nat))
  r : Rec3 W (w0.heap.size + 1)
  B : Below w0.heap.size w0 W
theorem RM.off {w0 w w' : World} {a b : Nat} (h : RM w0 a b w) (hb : Below w.heap.size w w') : RM w0 a b w' :=
  ⟨Nat.lt_of_lt_of_le h.lt hb.size, (hb.cell (p := ⟨w0.heap.size, 0, none⟩) h.lt).trans h.c0, (hb.cell (p := ⟨w0.heap.size, 1, none⟩) h.lt).trans h.c1, h.r.on hb h.r.r.lt, h.B.on hb⟩
theorem RM.drewN {w0 w : World} {a b : Nat} (h : RM w0 a b w) (n : Nat) : RM w0 a b (w.drewN n) := ⟨h.lt, h.c0, h.c1, h.r.drewN n, below_drewN h.B n⟩
theorem RM.new (w : World) (a b : Nat) (o0 o1 o2 : Value) (t : TypeId) : RM w a b ((w.alloc (.cells #[.int .u64 (a : Nat), .int .u64 (b : Nat)] 44)).alloc (.cells #[o0, o1, o2] t)) := by
  have r := rec3_new (w.alloc (.cells #[.int .u64 (a : Nat), .int .u64 (b : Nat)] 44)) o0 o1 o2 t
  rw [World.size_alloc] at r
  have B := alloc_below (w.alloc (.cells #[.int .u64 (a : Nat), .int .u64 (b : Nat)] 44)) (.cells #[o0, o1, o2] t)
  exact ⟨by simp; omega, (B.cell (p := ⟨w.heap.size, 0, none⟩) (by simp)).trans (new0 _ _ _ _), (B.cell (p := ⟨w.heap.size, 1, none⟩) (by simp)).trans (new1 _ _ _ _), r, (alloc_below w _).on B⟩
set_option maxHeartbeats 1000000 in
set_option maxRecDepth 20000 in
theorem ratioOf_any (a b : Nat) (ha : a < 4294967296) (hb : b < 4294967296) (w : World) :
    Calls Try.prog 17 #[partV a b] w fun e w' => e = .returned (ratV a b) ∧ Below w.heap.size w w' := by
  have HA := Lib.hid fun W => Of_any a (by omega) W
  have HB := Lib.hid fun W => Of_any b (by omega) W
  have X0 := Lib.hid (RM.new w a b (.bool false) (.string ⟨#[]⟩) (.string ⟨#[]⟩) 24)
  unfold ratV partV
  generalize enc a = s at *
  generalize enc b = t at *
  go_enter Try.func17, Try.ntmps17
  go_wp2
  have y0 := X0.out.c0
  have y1 := X0.out.c1
  generalize ((w.alloc (.cells #[.int .u64 (a : Nat), .int .u64 (b : Nat)] 44)).alloc (.cells #[.bool false, .string ⟨#[]⟩, .string ⟨#[]⟩] 24)) = w1 at *
  obtain ⟨o0, p0⟩ := X0.out.r.r.c0
  obtain ⟨o1, p1⟩ := X0.out.r.r.c1
  obtain ⟨o2, p2⟩ := X0.out.r.c2
  have f0 := X0.out.r.r.f 0
  have f1 := X0.out.r.r.f 1
  have f2 := X0.out.r.r.f 2
  go_region_held3 (fun W => W.cell? ⟨w.heap.size, 0, none⟩ = some (.int .u64 (a : Nat)) ∧ W.cell? ⟨w.heap.size, 1, none⟩ = some (.int .u64 (b : Nat))) (exact ⟨by first | assumption | (rw [cell_set3 _ _ _ _ _ _ _ (Nat.ne_of_lt (Nat.lt_succ_self _))]; assumption), by first | assumption | (rw [cell_set3 _ _ _ _ _ _ _ (Nat.ne_of_lt (Nat.lt_succ_self _))]; assumption)⟩) (first
    | (go_at_call_of 27 a; refine (HA.out _).mono ?_; rintro e w2 ⟨rfl, B2⟩; have X2 := Lib.hid ((X0.out.drewN _).off B2); have k0 := X2.out.c0; have k1 := X2.out.c1)
    | (go_at_call_of 27 b; refine (HB.out _).mono ?_; rintro e w3 ⟨rfl, B3⟩; have X3 := Lib.hid (X2.out.off B3); have m0 := X3.out.c0; have m1 := X3.out.c1; obtain ⟨u0, q0⟩ := X3.out.r.r.c0; obtain ⟨u1, q1⟩ := X3.out.r.r.c1; obtain ⟨u2, q2⟩ := X3.out.r.c2; have g0 := X3.out.r.r.f 0; have g1 := X3.out.r.r.f 1; have g2 := X3.out.r.r.f 2))
  all_goals
    go_wp2
    obtain ⟨r0, r1, r2, hB⟩ := three_set w3 (w.heap.size + 1) (.bool false) (.string s) (.string t) _ _ _ q0 q1 q2
    have HBB := Lib.hid (X3.out.B.trans (hB w.heap.size (by omega)))
    clear hB
    generalize (((w3.setCell ⟨w.heap.size + 1, 0, none⟩ (.bool false)).setCell ⟨w.heap.size + 1, 1, none⟩ (.string s)).setCell ⟨w.heap.size + 1, 2, none⟩ (.string t)) = w9 at *
    refine bodyPost_ret (by simp [results, Try.results17, go_sem, r0, r1, r2]; try rfl) rfl ?_
    exact ⟨rfl, HBB.out⟩
set_option maxHeartbeats 1000000 in
set_option maxRecDepth 20000 in
theorem told_any (a b : Nat) (ha : a < 4294967296) (hb : b ≤ 2147483647) (w : World) :
    Calls Try.prog 11 #[partV a b] w fun e w' => e = .returned (.tuple #[ratV a b, .int .i64 0]) ∧ Below w.heap.size w w' := by
  have HR := Lib.hid fun W => ratioOf_any a b ha (by omega) W
  have X0 := Lib.hid (RM.new w a b (.bool false) (.string ⟨#[]⟩) (.string ⟨#[]⟩) 24)
  have hn : ¬ (b : Int) > 2147483647 := by omega
  unfold ratV partV at *
  generalize enc a = s at *
  generalize enc b = t at *
  go_enter Try.func11, Try.ntmps11
  go_upto_region 1 with (fail)
  have y0 := X0.out.c0
  have y1 := X0.out.c1
  generalize ((w.alloc (.cells #[.int .u64 (a : Nat), .int .u64 (b : Nat)] 44)).alloc (.cells #[.bool false, .string ⟨#[]⟩, .string ⟨#[]⟩] 24)) = w1 at *
  go_wp2_with (first
    | (go_at_call 17; refine (HR.out _).mono ?_; rintro e w2 ⟨rfl, B2⟩; have X2 := Lib.hid (X0.out.off B2); obtain ⟨o0, p0⟩ := X2.out.r.r.c0; obtain ⟨o1, p1⟩ := X2.out.r.r.c1; obtain ⟨o2, p2⟩ := X2.out.r.c2; have f0 := X2.out.r.r.f 0; have f1 := X2.out.r.r.f 1; have f2 := X2.out.r.r.f 2))
  obtain ⟨r0, r1, r2, hB⟩ := three_set w2 (w.heap.size + 1) (.bool false) (.string s) (.string t) _ _ _ p0 p1 p2
  have HBB := Lib.hid (X2.out.B.trans (hB w.heap.size (by omega)))
  clear hB
  generalize (((w2.setCell ⟨w.heap.size + 1, 0, none⟩ (.bool false)).setCell ⟨w.heap.size + 1, 1, none⟩ (.string s)).setCell ⟨w.heap.size + 1, 2, none⟩ (.string t)) = w9 at *
  refine bodyPost_ret (by simp [results, Try.results11, go_sem, r0, r1, r2]; try rfl) rfl ?_
  exact ⟨rfl, HBB.out⟩
end Go.Proofs.Ytacpakmglmfgnaa
