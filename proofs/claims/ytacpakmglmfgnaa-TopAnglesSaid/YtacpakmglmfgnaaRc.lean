/-
  Make, Kind, Turns.
-/
import Derived.Test.YtacpakmglmfgnaaRb
import Derived.Test.YtacpakmglmfgnaaTj
namespace Go.Proofs.Ytacpakmglmfgnaa
open Go.RowKit

set_option maxHeartbeats 1000000 in
set_option maxRecDepth 20000 in
theorem make_any (n d : Nat) (hn : n < d) (hd : d ≤ 2147483647) (w : World) :
    Calls Try.prog 4 #[.int .i64 (n : Nat), .int .i64 (d : Nat)] w fun e w' => e = .returned (.tuple #[ratV (n / Nat.gcd n d) (d / Nat.gcd n d), .int .i64 0]) ∧ Below w.heap.size w w' := by
  have HL := Lib.hid fun W => lowest_any n d (by omega) (by omega) (by omega) W
  have ha := Nat.div_le_self n (Nat.gcd n d)
  have hb := Nat.div_le_self d (Nat.gcd n d)
  generalize n / Nat.gcd n d = a at *
  generalize d / Nat.gcd n d = b at *
  have HT := Lib.hid fun W => told_any a b (by omega) (by omega) W
  have R0 := rec3_new w (.bool false) (.string ⟨#[]⟩) (.string ⟨#[]⟩) 24
  have B0 := alloc_below w (.cells #[.bool false, .string ⟨#[]⟩, .string ⟨#[]⟩] 24)
  have h1 : ¬ (d : Int) < 1 := by omega
  have h2 : ¬ (d : Int) > 2147483647 := by omega
  have h3 : (n : Int) % d = n := Int.emod_eq_of_lt (by omega) (by omega)
  have h4 : ¬ (n : Int) < 0 := by omega
  have h5 : ((d : Int) == 0) = false := by rw [beq_eq_false_iff_ne]; omega
  have h6 : ¬ (d : Int) = 0 := by omega
  have h7 : (n : Int).tmod d = n := by rw [Int.tmod_eq_emod_of_nonneg (by omega)]; exact h3
  have HR := Lib.hid R0
  have HB := Lib.hid B0
  clear R0 B0
  unfold ratV at *
  generalize enc a = s at *
  generalize enc b = t at *
  go_enter Try.func4, Try.ntmps4
  go_upto_region 1 with (fail)
  generalize (w.alloc (.cells #[.bool false, .string ⟨#[]⟩, .string ⟨#[]⟩] 24)) = w1 at *
  go_wp2_with (first
    | (go_at_call 12; refine (HL.out _).mono ?_; rintro e w2 ⟨rfl, B2⟩; have R2 := Lib.hid (HR.out.on B2 HR.out.r.lt))
    | (go_at_call 11; refine (HT.out _).mono ?_; rintro e w3 ⟨rfl, B3⟩; have R3 := Lib.hid (R2.out.on B3 R2.out.r.lt); obtain ⟨o0, p0⟩ := R3.out.r.c0; obtain ⟨o1, p1⟩ := R3.out.r.c1; obtain ⟨o2, p2⟩ := R3.out.c2; have f0 := R3.out.r.f 0; have f1 := R3.out.r.f 1; have f2 := R3.out.r.f 2))
  obtain ⟨r0, r1, r2, hB⟩ := three_set w3 w.heap.size (.bool false) (.string s) (.string t) _ _ _ p0 p1 p2
  have HBB := Lib.hid (((HB.out.on B2).on B3).trans (hB w.heap.size (Nat.le_refl _)))
  clear hB
  generalize (((w3.setCell ⟨w.heap.size, 0, none⟩ (.bool false)).setCell ⟨w.heap.size, 1, none⟩ (.string s)).setCell ⟨w.heap.size, 2, none⟩ (.string t)) = w9 at *
  refine bodyPost_ret (by simp [results, Try.results4, go_sem, r0, r1, r2]; try rfl) rfl ?_
  exact ⟨rfl, HBB.out⟩
set_option maxHeartbeats 1000000 in
set_option maxRecDepth 20000 in
theorem Kind_any (a b d : Nat) (hab : a < b) (hb : b ≤ 3000) (hg : Nat.gcd a b = 1) (h1 : 2 ≤ d) (h2 : d ≤ 64) (w : World) :
    Calls Try.prog 5 #[ratV a b, .int .i64 (d : Nat)] w fun e w' => e = .returned (.tuple #[.int .i64 ((kindA b d).1 : Nat), .int .i64 ((kindA b d).2 : Nat), .int .i64 0]) ∧ Below w.heap.size w w' := by
  have HS := Lib.hid fun W => small_any a b hab (by omega) hg W
  have HT := Lib.hid fun W => turns_yes d h1 h2 W
  have HK := Lib.hid fun W => kind_any b d (by omega) hb (by omega) h2 W
  have X0 := Lib.hid (RB.new w (enc a) (enc b))
  generalize (kindA b d).1 = P at *
  generalize (kindA b d).2 = L at *
  unfold ratV at *
  unfold partV at *
  generalize enc a = s at *
  generalize enc b = t at *
  clear hg hab hb h1
  go_enter Try.func5, Try.ntmps5
  go_wp2_with (first
    | (go_at_call 13; refine (HS.out _).mono ?_; rintro e w1 ⟨rfl, B1⟩; have X1 := Lib.hid (X0.out.off B1); have B1A := Lib.hid (alloc_below w1 (.cells #[.int .u64 (a : Nat), .int .u64 (b : Nat)] 44)))
    | (go_at_call 14; refine (HT.out _).mono ?_; rintro e w2 ⟨rfl, rfl⟩)
    | (go_at_call 15; refine (HK.out _).mono ?_; rintro e w3 ⟨rfl, B3⟩))
  go_ret3
  exact ⟨rfl, (X1.out.B.on B1A.out).on B3⟩
/-- The frame of Turns: the result's three cells; then the part's two. -/
structure TQ (w0 : World) (W : World) : Prop where
  r : Rec3 W (w0.heap.size + 1)
  B : Below w0.heap.size w0 W
structure TM (w0 : World) (g a b : Nat) (W : World) : Prop where
  q : TQ w0 W
  ge : w0.heap.size + 1 < g
  lt : g < W.heap.size
  c0 : W.cell? ⟨g, 0, none⟩ = some (.int .u64 (a : Nat))
  c1 : W.cell? ⟨g, 1, none⟩ = some (.int .u64 (b : Nat))
theorem TQ.off {w0 w w' : World} (h : TQ w0 w) (hb : Below w.heap.size w w') : TQ w0 w' := ⟨h.r.on hb h.r.r.lt, h.B.on hb⟩
theorem TQ.drewN {w0 w : World} (h : TQ w0 w) (n : Nat) : TQ w0 (w.drewN n) := ⟨h.r.drewN n, below_drewN h.B n⟩
theorem TM.start (w : World) (s t : ByteArray) (o0 o1 o2 : Value) (e : TypeId) : TQ w ((w.alloc (.cells #[.bool false, .string s, .string t] 24)).alloc (.cells #[o0, o1, o2] e)) := by
  have r := rec3_new (w.alloc (.cells #[.bool false, .string s, .string t] 24)) o0 o1 o2 e
  rw [World.size_alloc] at r
  exact ⟨r, (alloc_below w _).on (alloc_below _ _)⟩
theorem TQ.more {w0 w : World} (h : TQ w0 w) (a b : Nat) : TM w0 w.heap.size a b (w.alloc (.cells #[.int .u64 (a : Nat), .int .u64 (b : Nat)] 44)) :=
  ⟨h.off (alloc_below _ _), h.r.r.lt, by simp, new0 _ _ _ _, new1 _ _ _ _⟩
theorem TM.off {w0 w w' : World} {g a b : Nat} (h : TM w0 g a b w) (hb : Below w.heap.size w w') : TM w0 g a b w' :=
  ⟨h.q.off hb, h.ge, Nat.lt_of_lt_of_le h.lt hb.size, (hb.cell (p := ⟨g, 0, none⟩) h.lt).trans h.c0, (hb.cell (p := ⟨g, 1, none⟩) h.lt).trans h.c1⟩
theorem TM.drewN {w0 w : World} {g a b : Nat} (h : TM w0 g a b w) (n : Nat) : TM w0 g a b (w.drewN n) := ⟨h.q.drewN n, h.ge, h.lt, h.c0, h.c1⟩
theorem TM.drew {w0 w : World} {g a b : Nat} (h : TM w0 g a b w) : TM w0 g a b w.drew := h.drewN 1
set_option maxHeartbeats 400000 in
set_option maxRecDepth 20000 in
theorem Turns_any (a b d k : Nat) (hab : a < b) (hb : b ≤ 2147483647) (hg : Nat.gcd a b = 1) (h1 : 2 ≤ d) (h2 : d ≤ 64) (hk : k < 4398046511104) (w : World) :
    Calls Try.prog 9 #[ratV a b, .int .i64 (d : Nat), .int .i64 (k : Nat)] w fun e w' => e = .returned (.tuple #[ratV (a * (d ^ k % b) % b / Nat.gcd (a * (d ^ k % b) % b) b) (b / Nat.gcd (a * (d ^ k % b) % b) b), .int .i64 0]) ∧ Below w.heap.size w w' := by
  have HS := Lib.hid fun W => small_any a b hab (by omega) hg W
  have HT := Lib.hid fun W => turns_yes d h1 h2 W
  have HP := Lib.hid fun W => power_any d k b (by omega) hk (by omega) (by omega) W
  have hvl : d ^ k % b < 4294967296 := Nat.lt_trans (Nat.mod_lt _ (by omega)) (by omega)
  generalize d ^ k % b = v at *
  have HU := Lib.hid fun W => turn_any a b v (by omega) (by omega) (by omega) hvl W
  have hl1 := Nat.div_le_self (a * v % b) (Nat.gcd (a * v % b) b)
  have hl2 := Nat.div_le_self b (Nat.gcd (a * v % b) b)
  have hl3 := Nat.mod_lt (a * v) (show 0 < b by omega)
  generalize a * v % b / Nat.gcd (a * v % b) b = x at *
  generalize b / Nat.gcd (a * v % b) b = y at *
  have HO := Lib.hid fun W => told_any x y (by omega) (by omega) W
  have X0 := Lib.hid (RB.new w (enc a) (enc b))
  have hk0 : ¬ (k : Int) < 0 := by omega
  clear hl1 hl2 hl3 hg hab
  unfold ratV partV at *
  generalize enc a = s at *
  generalize enc b = t at *
  generalize enc x = p at *
  generalize enc y = q at *
  have Y0 := Lib.hid (TM.start w s t (.bool false) (.string ⟨#[]⟩) (.string ⟨#[]⟩) 24)
  clear X0
  go_enter Try.func9, Try.ntmps9
  go_upto_region 6 with (first
    | (go_at_call 13; refine (HS.out _).mono ?_; rintro e w1 ⟨rfl, B1⟩; have Y1 := Lib.hid (Y0.out.off B1); have Y2 := Lib.hid (Y1.out.more a b))
    | (go_at_call 14; refine (HT.out _).mono ?_; rintro e w2 ⟨rfl, rfl⟩))
  have y0 := Y2.out.c0
  have y1 := Y2.out.c1
  generalize w1.alloc (.cells #[.int .u64 (a : Nat), .int .u64 (b : Nat)] 44) = w2 at *
  generalize w1.heap.size = g at *
  have hwd : IntKind.u64.wrap (d : Int) = d := by rw [IntKind.wrap_u64]; omega
  have hgne : g ≠ w.heap.size + 1 := by have := Y2.out.ge; omega
  go_region_held3 (fun W => W.cell? ⟨g, 0, none⟩ = some (.int .u64 (a : Nat)) ∧ W.cell? ⟨g, 1, none⟩ = some (.int .u64 (b : Nat))) (exact ⟨by first | assumption | (rw [cell_set3 _ _ _ _ _ _ _ hgne]; assumption), by first | assumption | (rw [cell_set3 _ _ _ _ _ _ _ hgne]; assumption)⟩) (first
    | (go_at_call 19; (try rw [hwd]); refine (HP.out _).mono ?_; rintro e w3 ⟨n, rfl, rfl⟩)
    | (go_at_call 18; refine (HU.out _).mono ?_; rintro e w4 ⟨rfl, B4⟩; have Y4 := Lib.hid ((Y2.out.drewN _).off B4); have k0 := Y4.out.c0; have k1 := Y4.out.c1)
    | (go_at_call 11; refine (HO.out _).mono ?_; rintro e w5 ⟨rfl, B5⟩; have Y5 := Lib.hid (Y4.out.off B5); have m0 := Y5.out.c0; have m1 := Y5.out.c1; obtain ⟨u0, q0⟩ := Y5.out.q.r.r.c0; obtain ⟨u1, q1⟩ := Y5.out.q.r.r.c1; obtain ⟨u2, q2⟩ := Y5.out.q.r.c2; have g0 := Y5.out.q.r.r.f 0; have g1 := Y5.out.q.r.r.f 1; have g2 := Y5.out.q.r.r.f 2))
  all_goals
    go_wp2
    obtain ⟨r0, r1, r2, hB⟩ := three_set w5 (w.heap.size + 1) (.bool false) (.string p) (.string q) _ _ _ q0 q1 q2
    have HBB := Lib.hid (Y5.out.q.B.trans (hB w.heap.size (by omega)))
    clear hB
    generalize (((w5.setCell ⟨w.heap.size + 1, 0, none⟩ (.bool false)).setCell ⟨w.heap.size + 1, 1, none⟩ (.string p)).setCell ⟨w.heap.size + 1, 2, none⟩ (.string q)) = w9 at *
    refine bodyPost_ret (by simp [results, Try.results9, go_sem, r0, r1, r2]; try rfl) rfl ?_
    exact ⟨rfl, HBB.out⟩
end Go.Proofs.Ytacpakmglmfgnaa
