/-
  The walk of Each's function at the second example: it calls yield at the points 0, 1, ...
-/
import Derived.RangeFuncNested
import Derived.RangeFuncBound
import Derived.RangeFuncCalls
import Derived.RangeFuncLeaves
import Derived.Shelf.Abstract
import Derived.Shelf.RegionOpen
import Derived.WalkKit
import Derived.OwnWalkIn
import Derived.TacticsInMore
import Derived.LoopNIn
import Derived.LoopIn
import Derived.Sort.LoopGhostIn
import Derived.Test.YtinlachbnflpoaaOg
namespace Go.Proofs.Ytinlachbnflpoaa
open Go.RowKit Go.Shelf
attribute [local go_sem] Oper.semAt_some

/-- Blocks in which something may be read lie as they lay. -/
structure KC (A B : World) : Prop where
  size : A.heap.size ≤ B.heap.size
  block : ∀ k i v, A.cell? ⟨k, i, none⟩ = some v → B.heap[k]? = A.heap[k]?
theorem KC.cell {A B : World} (h : KC A B) {k i : Nat} {v : Value} (hc : A.cell? ⟨k, i, none⟩ = some v) : B.cell? ⟨k, i, none⟩ = some v :=
  (World.cell?_of_block (h.block k i v hc)).trans hc
theorem KC.frozen {A B : World} (h : KC A B) {k i j : Nat} {v : Value} (hc : A.cell? ⟨k, i, none⟩ = some v) : B.frozen? ⟨k, j, none⟩ = A.frozen? ⟨k, j, none⟩ :=
  World.frozen?_of_block (h.block k i v hc)
theorem KC.row {A B : World} (h : KC A B) {b cap : Nat} {L : List (Nat × Nat)} (hr : CRow A b cap L) : CRow B b cap L :=
  ⟨hr.le, hr.max, Nat.lt_of_lt_of_le hr.lt h.size, fun i hi => h.cell (hr.cell i hi)⟩
theorem KC.map {A B : World} (h : KC A B) {b1 c1 b2 c2 : Nat} {L1 L2 : List (Nat × Nat)} (hm : MapOk A b1 c1 L1 b2 c2 L2) : MapOk B b1 c1 L1 b2 c2 L2 :=
  ⟨h.row hm.p, h.row hm.q, hm.po, hm.qo⟩
abbrev Cw : Nat := 4607182418800017408
/-- What the function knows between two rounds: the map's box, the point's box. -/
structure EaM (Bm q : Nat) (b1 c1 b2 c2 : Nat) (z : Nat) (w : World) : Prop where
  m : MapOk w b1 c1 (re [4607182418800017408, 4607182418800017408]) b2 c2 (re [4607182418800017408])
  ml : Bm < w.heap.size
  ql : q < w.heap.size
  a : w.cell? ⟨Bm, 0, none⟩ = some (.slice (some ⟨b1, 0, none⟩) 2 c1)
  b : w.cell? ⟨Bm, 1, none⟩ = some (.slice (some ⟨b2, 0, none⟩) 1 c2)
  c : w.cell? ⟨q, 0, none⟩ = some (.complex .f64 z 0)
  d : w.cell? ⟨q, 1, none⟩ = some (.bool false)
  f : ∀ i, w.frozen? ⟨q, i, none⟩ = false
theorem EaM.on {Bm q b1 c1 b2 c2 z : Nat} {A B : World} (h : EaM Bm q b1 c1 b2 c2 z A) (k : Below A.heap.size A B) : EaM Bm q b1 c1 b2 c2 z B :=
  ⟨h.m.below k, Nat.lt_of_lt_of_le h.ml k.size, Nat.lt_of_lt_of_le h.ql k.size, (k.cell (p := ⟨Bm, 0, none⟩) h.ml).trans h.a, (k.cell (p := ⟨Bm, 1, none⟩) h.ml).trans h.b,
   (k.cell (p := ⟨q, 0, none⟩) h.ql).trans h.c, (k.cell (p := ⟨q, 1, none⟩) h.ql).trans h.d, fun i => (k.frozen (p := ⟨q, i, none⟩) h.ql).trans (h.f i)⟩
theorem EaM.kc {Bm q b1 c1 b2 c2 z : Nat} {A B : World} (h : EaM Bm q b1 c1 b2 c2 z A) (k : KC A B) : EaM Bm q b1 c1 b2 c2 z B :=
  ⟨k.map h.m, Nat.lt_of_lt_of_le h.ml k.size, Nat.lt_of_lt_of_le h.ql k.size, k.cell h.a, k.cell h.b, k.cell h.c, k.cell h.d, fun i => (k.frozen h.c).trans (h.f i)⟩

set_option maxRecDepth 100000 in
set_option maxHeartbeats 1000000 in
theorem each1_in (n : Nat) (hn : 1 ≤ n) (l Bm Bp b1 c1 b2 c2 : Nat) (J : Nat → World → Prop) (Jx : World → Prop) (W : World)
    (hab : ∀ k A B, W.heap.size ≤ A.heap.size → Below W.heap.size A B → J k A → J k B)
    (hY : ∀ k W1, k ≤ 5 → W.heap.size ≤ W1.heap.size → J k W1 → YieldAt Fence.wide (n - 1) Try.prog l #[.int .i64 (k : Int), .agg #[.complex .f64 (fw k) 0, .bool false]] W1 fun e W' =>
      (k < 5 ∧ e = .returned (.bool true) ∧ J (k + 1) W' ∧ KC W1 W') ∨ (e = .returned (.bool false) ∧ Jx W'))
    (hM : EaM Bm Bp b1 c1 b2 c2 0 W) (h0 : J 0 W) :
    CallsIn Fence.wide n Try.prog 17 #[.func (.yield l) #[] #[], .pointer (some ⟨Bm, 0, none⟩), .pointer (some ⟨Bp, 0, none⟩)] W fun e W' => (∃ v, e = .returned v) ∧ Jx W' := by
  have HMay := Lib.hid (may_any (z := 0) W hM.m fi_zero)
  have HM := Lib.hid hM
  obtain ⟨x1, x2, x3, x4, x5, x6, x7, x8⟩ := hM
  refine callsIn_of_wp Try.func17 rfl trivial ?_ rfl
  simp only [Try.ntmps17, List.size_toArray, List.length_cons, List.length_nil, Nat.reduceAdd, Nat.reduceSub, Array.replicate_succ, Array.replicate_zero, List.push_toArray, List.append_toArray, List.nil_append, List.cons_append]
  gi_wp2_with (refine ⟨trivial, ?_⟩; gi_at_call 7; refine (callsIn_wide.2 HMay.out).mono ?_; rintro e w1 ⟨rfl, B1⟩; have M1 := Lib.hid (HM.out.on B1); clear x1 x2 x3 x4 x5 x6 x7 x8; obtain ⟨x1, x2, x3, x4, x5, x6, x7, x8⟩ := M1.out; have y0 := new0 w1 36; have y1 := new1 w1 36; have yf := newf w1 36)
  have hsz : w1.heap.size < (w1.alloc (.cells #[.complex .f64 0 0, .bool false] 36)).heap.size := by simp
  have M2 : EaM Bm w1.heap.size b1 c1 b2 c2 0 (w1.alloc (.cells #[.complex .f64 0 0, .bool false] 36)) :=
    ⟨x1.below (alloc_below w1 _), Nat.lt_of_lt_of_le x2 (Nat.le_of_lt hsz), hsz, ((alloc_below w1 _).cell (p := ⟨Bm, 0, none⟩) x2).trans x4, ((alloc_below w1 _).cell (p := ⟨Bm, 1, none⟩) x2).trans x5, y0 _ _, y1 _ _, yf _ _⟩
  have B2 := B1.alloced (o := .cells #[.complex .f64 0 0, .bool false] 36)
  have HQ := B1.size
  have hl1 := x1.p.lt
  have hl2 := x1.q.lt
  have hl3 := x2
  have h2 := hab 0 W _ (Nat.le_refl _) B2 h0
  have hs2 := B2.size
  clear x1 x2 x3 x4 x5 x6 x7 x8 y0 y1 yf M1 HM HMay B1 B2 h0
  generalize w1.alloc (.cells #[.complex .f64 0 0, .bool false] 36) = w2 at *
  generalize w1.heap.size = q at *
  clear hsz
  gi_loopg [4, 6] 5 (fun g v4 v6 wr => ∃ k : Nat, k + g = 5 ∧ v4 = .bool true ∧ v6 = .int .i64 (k : Int) ∧ Hid (EaM Bm q b1 c1 b2 c2 (fw k) wr) ∧ W.heap.size ≤ wr.heap.size ∧ J k wr)
  case atStart => exact ⟨0, rfl, rfl, rfl, M2, hs2, h2⟩
  case round =>
    obtain ⟨k, hk, rfl, rfl, HE, hsw, hJ⟩ := hrel
    obtain ⟨fn, tmps, assign, body, hy, hR⟩ := hY k wr (by omega) hsw hJ
    obtain ⟨x1, x2, x3, x4, x5, x6, x7, x8⟩ := HE.out
    have hk1 : (k : Int) ≤ 4096 := by omega
    gi_wp2
    refine hR.mono ?_
    rintro e W3 (⟨hk5, rfl, hJ3, hk3⟩ | ⟨rfl, hJx3⟩)
    · have HE3 := Lib.hid (HE.out.kc hk3)
      have HAT := Lib.hid (ex2_at k (by omega) W3 HE3.out.m)
      have hs3 := hk3.size
      clear x1 x2 x3 x4 x5 x6 x7 x8 hy hR
      obtain ⟨x1, x2, x3, x4, x5, x6, x7, x8⟩ := HE3.out
      gi_wp2_with (refine ⟨trivial, ?_⟩; gi_at_call 9; refine (callsIn_wide.2 HAT.out).mono ?_; rintro e w4 ⟨rfl, B4⟩; have M4 := Lib.hid (HE3.out.on B4); clear x1 x2 x3 x4 x5 x6 x7 x8; obtain ⟨x1, x2, x3, x4, x5, x6, x7, x8⟩ := M4.out; have z0 := x8 0; have z1 := x8 1)
      have hin := two_set w4 q (.complex .f64 (fw (k + 1)) 0) (.bool false) _ _ x6 x7
      have BQ := hin.2.2 q (Nat.le_refl _)
      have BW := hin.2.2 W.heap.size HQ
      have HE5 : EaM Bm q b1 c1 b2 c2 (fw (k + 1)) ((w4.setCell ⟨q, 0, none⟩ (.complex .f64 (fw (k + 1)) 0)).setCell ⟨q, 1, none⟩ (.bool false)) :=
        ⟨⟨⟨x1.p.le, x1.p.max, Nat.lt_of_lt_of_le x1.p.lt BQ.size, fun i hi => (BQ.cell (p := ⟨b1, i, none⟩) hl1).trans (x1.p.cell i hi)⟩,
          ⟨x1.q.le, x1.q.max, Nat.lt_of_lt_of_le x1.q.lt BQ.size, fun i hi => (BQ.cell (p := ⟨b2, i, none⟩) hl2).trans (x1.q.cell i hi)⟩, x1.po, x1.qo⟩,
         Nat.lt_of_lt_of_le x2 BQ.size, Nat.lt_of_lt_of_le x3 BQ.size, (BQ.cell (p := ⟨Bm, 0, none⟩) hl3).trans x4, (BQ.cell (p := ⟨Bm, 1, none⟩) hl3).trans x5, hin.1, hin.2.1,
         fun i => by rw [World.frozen?_setCell, World.frozen?_setCell]; exact x8 i⟩
      have BB := (B4.mono (show W.heap.size ≤ W3.heap.size by omega)).trans BW
      gi_roundg (4 - k)
      case measure => omega
      case rel => exact ⟨k + 1, by omega, rfl, rfl, HE5, Nat.le_trans (by omega) BB.size, hab _ _ _ (by omega) BB hJ3⟩
    · gi_wp2
      refine bodyPost_ret (results_none rfl _ _ _) rfl ?_
      exact ⟨⟨_, rfl⟩, hJx3⟩
set_option maxHeartbeats 1000000 in
theorem each_in (n : Nat) (b1 c1 b2 c2 : Nat) (w : World) :
    CallsIn Fence.wide n Try.prog 10 #[.agg #[.slice (some ⟨b1, 0, none⟩) 2 c1, .slice (some ⟨b2, 0, none⟩) 1 c2], .agg #[.complex .f64 0 0, .bool false]] w fun e w' =>
      e = .returned (.func (.func 17) #[] #[.pointer (some ⟨w.heap.size, 0, none⟩), .pointer (some ⟨w.heap.size + 1, 0, none⟩)]) ∧
      w' = (w.alloc (.cells #[.slice (some ⟨b1, 0, none⟩) 2 c1, .slice (some ⟨b2, 0, none⟩) 1 c2] 27)).alloc (.cells #[.complex .f64 0 0, .bool false] 36) := by
  refine callsIn_of_wp Try.func10 rfl trivial ?_ rfl
  simp only [Try.ntmps10, List.size_toArray, List.length_cons, List.length_nil, Nat.reduceAdd, Nat.reduceSub, Array.replicate_succ, Array.replicate_zero, List.push_toArray, List.append_toArray, List.nil_append, List.cons_append]
  gi_wp2
  go_ret
  exact ⟨rfl, rfl⟩
end Go.Proofs.Ytinlachbnflpoaa
