/-
  The walk of ratmap.At at a finite point.
-/
import Derived.Test.YtinlachbnflpoaaOd
namespace Go.Proofs.Ytinlachbnflpoaa
open Go.RowKit

/-- At's boxes, and the far point's. -/
structure AtF (g q : Nat) (m0 m1 p0 p1 : Value) (w : World) : Prop where
  base : AtM g m0 m1 p0 p1 w
  ql : q < w.heap.size
  f0 : w.cell? ⟨q, 0, none⟩ = some (.complex .f64 0 0)
  f1 : w.cell? ⟨q, 1, none⟩ = some (.bool true)
theorem AtF.on {g q : Nat} {m0 m1 p0 p1 : Value} {w w1 : World} (h : AtF g q m0 m1 p0 p1 w) (B : Below w.heap.size w w1) : AtF g q m0 m1 p0 p1 w1 :=
  ⟨h.base.on B, Nat.lt_of_lt_of_le h.ql B.size, (B.cell (p := ⟨q, 0, none⟩) h.ql).trans h.f0, (B.cell (p := ⟨q, 1, none⟩) h.ql).trans h.f1⟩
theorem eq0_0 : (FloatKind.f64.format.order 0 0 == some Ordering.eq) = true := by rw [order_eq]; decide
theorem eq1_0 : (FloatKind.f64.format.order 4607182418800017408 0 == some Ordering.eq) = false := by rw [order_eq]; decide
theorem fw_ne : ∀ k : Fin 6, k.val ≠ 0 → eqF (fw k.val) 0 = false := by decide +kernel
set_option maxRecDepth 20000 in
set_option maxHeartbeats 4000000 in
theorem at_far {b1 c1 b2 c2 z : Nat} {C1 C2 : List Nat} {S1 S2 : Nat → Nat} (w : World) (h : MapOk w b1 c1 (re C1) b2 c2 (re C2)) (hz : Fi z) (H1 : Horner C1 z S1) (H2 : Horner C2 z S2) (hu : eqF (S1 0) 0 = false) (hv : S2 0 = 0) :
    Calls Try.prog 9 #[.agg #[.slice (some ⟨b1, 0, none⟩) C1.length c1, .slice (some ⟨b2, 0, none⟩) C2.length c2], .agg #[.complex .f64 z 0, .bool false]] w fun e w' => e = .returned (.tuple #[.agg #[.complex .f64 0 0, .bool true], .bool true]) ∧ Below w.heap.size w w' := by
  obtain ⟨hm0, hb0⟩ := atM_new w (.slice (some ⟨b1, 0, none⟩) C1.length c1) (.slice (some ⟨b2, 0, none⟩) C2.length c2) (.complex .f64 z 0) (.bool false)
  have HM0 := Lib.hid hm0
  have HB0 := Lib.hid hb0
  have hck := mcheck_any _ (h.below hb0)
  rw [re_len, re_len] at hck
  have HCK := Lib.hid hck
  have HMO := Lib.hid h
  have HIP := Lib.hid fun W => ispoint_fin z 0 hz fi_zero W
  have HP1 := Lib.hid fun W r => pat_any b1 c1 C1 z S1 H1 h.po W r
  have HP2 := Lib.hid fun W r => pat_any b2 c2 C2 z S2 H2 h.qo W r
  rw [hv] at HP2
  have hu2 : (FloatKind.f64.format.order (S1 0) 0 == some Ordering.eq) = false := by rw [order_eq]; exact hu
  have e00 := eq0_0
  have e01 : eqF 0 0 = true := by decide
  generalize S1 0 = u at *
  have HW : Hid (atW w (.slice (some ⟨b1, 0, none⟩) C1.length c1) (.slice (some ⟨b2, 0, none⟩) C2.length c2) (.complex .f64 z 0) (.bool false) = ((w.alloc (.cells #[.slice (some ⟨b1, 0, none⟩) C1.length c1, .slice (some ⟨b2, 0, none⟩) C2.length c2] 27)).alloc (.cells #[.complex .f64 z 0, .bool false] 36)).alloc (.cells #[.complex .f64 0 0, .bool false] 36)) := rfl
  clear hm0 hb0 hck h hz H1 H2
  go_enter Try.func9, Try.ntmps9
  go_upto_region 4 with (first | (rw [← HW.out]; go_at_call 11; with_reducible refine HCK.out.mono ?_; rintro e w1 ⟨rfl, B1⟩; have M1 := Lib.hid (HM0.out.on B1); have BB1 := Lib.hid (HB0.out.on B1); obtain ⟨l1, x1, x2, x3, x4, x5, x6, x7⟩ := M1.out; clear B1) | (go_at_call 12; with_reducible refine (HIP.out _).mono ?_; rintro e w2 ⟨rfl, B2⟩; have M2 := Lib.hid (M1.out.on B2); have BB2 := Lib.hid (BB1.out.on B2); clear l1 x1 x2 x3 x4 x5 x6 x7; obtain ⟨l1, x1, x2, x3, x4, x5, x6, x7⟩ := M2.out; have x8 := x7 0; have x9 := x7 1; have y0 := new0 w2 36; have y1 := new1 w2 36; have yf := newf w2 36; clear B2 x7))
  have hsz : w2.heap.size < (w2.alloc (.cells #[.complex .f64 0 0, .bool true] 36)).heap.size := by simp
  have M3 : Hid (AtF w.heap.size w2.heap.size _ _ _ _ (w2.alloc (.cells #[.complex .f64 0 0, .bool true] 36))) := ⟨M2.out.on (alloc_below w2 (.cells #[.complex .f64 0 0, .bool true] 36)), hsz, y0 _ _, y1 _ _⟩
  have BB3 := Lib.hid (BB2.out.alloced (o := .cells #[.complex .f64 0 0, .bool true] 36))
  clear l1 x1 x2 x3 x4 x5 x6 x8 x9 y0 y1 yf hsz
  generalize hw3 : w2.alloc (.cells #[.complex .f64 0 0, .bool true] 36) = w3 at *
  clear hw3
  obtain ⟨⟨l1, x1, x2, x3, x4, x5, x6, x7⟩, q1, q2, q3⟩ := M3.out
  have x8 := x7 0
  have x9 := x7 1
  clear x7
  go_wp2_with (first | (go_at_call 16; with_reducible refine (HP1.out _ (HMO.out.below BB3.out).p).mono ?_; rintro e w4 ⟨rfl, B4⟩; have M4 := Lib.hid (M3.out.on B4); have BB4 := Lib.hid (BB3.out.on B4); clear l1 x1 x2 x3 x4 x5 x6 x8 x9 q1 q2 q3; obtain ⟨⟨l1, x1, x2, x3, x4, x5, x6, x7⟩, q1, q2, q3⟩ := M4.out; have x8 := x7 0; have x9 := x7 1; clear x7; clear B4) | (go_at_call 16; with_reducible refine (HP2.out _ (HMO.out.below BB4.out).q).mono ?_; rintro e w5 ⟨rfl, B5⟩; have M5 := Lib.hid (M4.out.on B5); have BB5 := Lib.hid (BB4.out.on B5); clear l1 x1 x2 x3 x4 x5 x6 x8 x9 q1 q2 q3; obtain ⟨⟨l1, x1, x2, x3, x4, x5, x6, x7⟩, q1, q2, q3⟩ := M5.out; have x8 := x7 0; have x9 := x7 1; clear x7; clear B5))
  have hin := two_set w5 (w.heap.size + 1 + 1) (.complex .f64 0 0) (.bool true) _ _ x5 x6
  have HBF := Lib.hid (BB5.out.trans (hin.2.2 w.heap.size (by omega)))
  obtain ⟨r0, r1, _⟩ := hin
  generalize (w5.setCell ⟨w.heap.size + 1 + 1, 0, none⟩ (.complex .f64 0 0)).setCell ⟨w.heap.size + 1 + 1, 1, none⟩ (.bool true) = w9 at *
  refine bodyPost_ret (by simp [results, Try.results9, go_sem, r0, r1]; try rfl) rfl ?_
  exact ⟨rfl, HBF.out⟩
set_option maxRecDepth 20000 in
set_option maxHeartbeats 4000000 in
theorem at_num {b1 c1 b2 c2 z : Nat} {C1 C2 : List Nat} {S1 S2 : Nat → Nat} (w : World) (h : MapOk w b1 c1 (re C1) b2 c2 (re C2)) (hz : Fi z) (H1 : Horner C1 z S1) (H2 : Horner C2 z S2) (k : Nat) (hk : k ≤ 5) (hk1 : k ≠ 0) (hu : S1 0 = fw k) (hv : S2 0 = 4607182418800017408) :
    Calls Try.prog 9 #[.agg #[.slice (some ⟨b1, 0, none⟩) C1.length c1, .slice (some ⟨b2, 0, none⟩) C2.length c2], .agg #[.complex .f64 z 0, .bool false]] w fun e w' => e = .returned (.tuple #[.agg #[.complex .f64 (fw k) 0, .bool false], .bool true]) ∧ Below w.heap.size w w' := by
  obtain ⟨hm0, hb0⟩ := atM_new w (.slice (some ⟨b1, 0, none⟩) C1.length c1) (.slice (some ⟨b2, 0, none⟩) C2.length c2) (.complex .f64 z 0) (.bool false)
  have HM0 := Lib.hid hm0
  have HB0 := Lib.hid hb0
  have hck := mcheck_any _ (h.below hb0)
  rw [re_len, re_len] at hck
  have HCK := Lib.hid hck
  have HMO := Lib.hid h
  have HIP := Lib.hid fun W => ispoint_fin z 0 hz fi_zero W
  have HP1 := Lib.hid fun W r => pat_any b1 c1 C1 z S1 H1 h.po W r
  have HP2 := Lib.hid fun W r => pat_any b2 c2 C2 z S2 H2 h.qo W r
  rw [hv] at HP2
  rw [hu] at HP1
  have HQ := Lib.hid fun W => quo_fw k hk W
  have HF1 := Lib.hid fun W => finite_r (fw k) 0 (fi_fw k hk) fi_zero W
  have HF2 := Lib.hid fun W => finite_r 4607182418800017408 0 (fi_fw 1 (by omega)) fi_zero W
  have hu3 : eqF (fw k) 0 = false := fw_ne ⟨k, by omega⟩ hk1
  have hu2 : (FloatKind.f64.format.order (fw k) 0 == some Ordering.eq) = false := by rw [order_eq]; exact hu3
  have e10 := eq1_0
  have e11 : eqF 4607182418800017408 0 = false := by decide
  generalize fw k = u at *
  have HW : Hid (atW w (.slice (some ⟨b1, 0, none⟩) C1.length c1) (.slice (some ⟨b2, 0, none⟩) C2.length c2) (.complex .f64 z 0) (.bool false) = ((w.alloc (.cells #[.slice (some ⟨b1, 0, none⟩) C1.length c1, .slice (some ⟨b2, 0, none⟩) C2.length c2] 27)).alloc (.cells #[.complex .f64 z 0, .bool false] 36)).alloc (.cells #[.complex .f64 0 0, .bool false] 36)) := rfl
  clear hm0 hb0 hck h hz H1 H2
  go_enter Try.func9, Try.ntmps9
  go_upto_region 4 with (first | (rw [← HW.out]; go_at_call 11; with_reducible refine HCK.out.mono ?_; rintro e w1 ⟨rfl, B1⟩; have M1 := Lib.hid (HM0.out.on B1); have BB1 := Lib.hid (HB0.out.on B1); obtain ⟨l1, x1, x2, x3, x4, x5, x6, x7⟩ := M1.out; clear B1) | (go_at_call 12; with_reducible refine (HIP.out _).mono ?_; rintro e w2 ⟨rfl, B2⟩; have M2 := Lib.hid (M1.out.on B2); have BB2 := Lib.hid (BB1.out.on B2); clear l1 x1 x2 x3 x4 x5 x6 x7; obtain ⟨l1, x1, x2, x3, x4, x5, x6, x7⟩ := M2.out; have x8 := x7 0; have x9 := x7 1; have y0 := new0 w2 36; have y1 := new1 w2 36; have yf := newf w2 36; clear B2 x7))
  have hsz : w2.heap.size < (w2.alloc (.cells #[.complex .f64 0 0, .bool true] 36)).heap.size := by simp
  have M3 : Hid (AtF w.heap.size w2.heap.size _ _ _ _ (w2.alloc (.cells #[.complex .f64 0 0, .bool true] 36))) := ⟨M2.out.on (alloc_below w2 (.cells #[.complex .f64 0 0, .bool true] 36)), hsz, y0 _ _, y1 _ _⟩
  have BB3 := Lib.hid (BB2.out.alloced (o := .cells #[.complex .f64 0 0, .bool true] 36))
  clear l1 x1 x2 x3 x4 x5 x6 x8 x9 y0 y1 yf hsz
  generalize hw3 : w2.alloc (.cells #[.complex .f64 0 0, .bool true] 36) = w3 at *
  clear hw3
  obtain ⟨⟨l1, x1, x2, x3, x4, x5, x6, x7⟩, q1, q2, q3⟩ := M3.out
  have x8 := x7 0
  have x9 := x7 1
  clear x7
  go_wp2_with (first | (go_at_call 16; with_reducible refine (HP1.out _ (HMO.out.below BB3.out).p).mono ?_; rintro e w4 ⟨rfl, B4⟩; have M4 := Lib.hid (M3.out.on B4); have BB4 := Lib.hid (BB3.out.on B4); clear l1 x1 x2 x3 x4 x5 x6 x8 x9 q1 q2 q3; obtain ⟨⟨l1, x1, x2, x3, x4, x5, x6, x7⟩, q1, q2, q3⟩ := M4.out; have x8 := x7 0; have x9 := x7 1; clear x7; clear B4) | (go_at_call 16; with_reducible refine (HP2.out _ (HMO.out.below BB4.out).q).mono ?_; rintro e w5 ⟨rfl, B5⟩; have M5 := Lib.hid (M4.out.on B5); have BB5 := Lib.hid (BB4.out.on B5); clear l1 x1 x2 x3 x4 x5 x6 x8 x9 q1 q2 q3; obtain ⟨⟨l1, x1, x2, x3, x4, x5, x6, x7⟩, q1, q2, q3⟩ := M5.out; have x8 := x7 0; have x9 := x7 1; clear x7; clear B5) | (go_at_call 14; with_reducible refine (HQ.out _).mono ?_; rintro e w6 ⟨rfl, B6⟩; have M6 := Lib.hid (M5.out.on B6); have BB6 := Lib.hid (BB5.out.on B6); clear l1 x1 x2 x3 x4 x5 x6 x8 x9 q1 q2 q3; obtain ⟨⟨l1, x1, x2, x3, x4, x5, x6, x7⟩, q1, q2, q3⟩ := M6.out; have x8 := x7 0; have x9 := x7 1; clear x7; clear B6) | (go_at_call 15; with_reducible refine (HF1.out _).mono ?_; rintro e w' ⟨rfl, rfl⟩) | (go_at_call 15; with_reducible refine (HF2.out _).mono ?_; rintro e w' ⟨rfl, rfl⟩))
  have hin := two_set w6 (w.heap.size + 1 + 1) (.complex .f64 u 0) (.bool false) _ _ x5 x6
  have HBF := Lib.hid (BB6.out.trans (hin.2.2 w.heap.size (by omega)))
  obtain ⟨r0, r1, _⟩ := hin
  generalize (w6.setCell ⟨w.heap.size + 1 + 1, 0, none⟩ (.complex .f64 u 0)).setCell ⟨w.heap.size + 1 + 1, 1, none⟩ (.bool false) = w9 at *
  refine bodyPost_ret (by simp [results, Try.results9, go_sem, r0, r1]; try rfl) rfl ?_
  exact ⟨rfl, HBF.out⟩
end Go.Proofs.Ytinlachbnflpoaa
