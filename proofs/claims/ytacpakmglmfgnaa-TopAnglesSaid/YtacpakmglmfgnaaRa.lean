/-
  ratio.May at small fractions.
-/
import Derived.Test.YtacpakmglmfgnaaWf
namespace Go.Proofs.Ytacpakmglmfgnaa
open Go.RowKit

/-- A fraction that is not below 0. -/
def ratV (a b : Nat) : Value := .agg #[.bool false, .string (enc a), .string (enc b)]
theorem enc_small (x : Nat) (h : x < 4294967296) : (enc x).size ≤ 4 := by
  rw [enc_size]; exact (digs_len (by omega) x 4).2 (by omega)
theorem enc_ok (x : Nat) (h : x < 4294967296) : Ok (enc x) := ok_enc x (Nat.le_trans ((digs_len (by omega) x 4).2 (by omega)) (by omega))
theorem enc_ne (x : Nat) (h : 0 < x) : enc x ≠ ⟨#[]⟩ := by
  intro e
  have : bval (enc x) = bval ⟨#[]⟩ := by rw [e]
  rw [bval_enc] at this
  have h2 : bval ⟨#[]⟩ = 0 := rfl
  omega
/-- The box of a fraction. -/
structure RB (w0 : World) (s t : ByteArray) (w : World) : Prop where
  lt : w0.heap.size < w.heap.size
  c0 : w.cell? ⟨w0.heap.size, 0, none⟩ = some (.bool false)
  c1 : w.cell? ⟨w0.heap.size, 1, none⟩ = some (.string s)
  c2 : w.cell? ⟨w0.heap.size, 2, none⟩ = some (.string t)
  B : Below w0.heap.size w0 w
theorem RB.new (w : World) (s t : ByteArray) : RB w s t (w.alloc (.cells #[.bool false, .string s, .string t] 24)) :=
  ⟨by simp, by rw [World.cell?_alloc_at _ _ _ _ rfl]; rfl, by rw [World.cell?_alloc_at _ _ _ _ rfl]; rfl, by rw [World.cell?_alloc_at _ _ _ _ rfl]; rfl, alloc_below w _⟩
theorem RB.on {w0 w w' : World} {s t : ByteArray} (h : RB w0 s t w) {C : Nat} (hb : Below C w w') (hC : w0.heap.size < C) : RB w0 s t w' :=
  ⟨Nat.lt_of_lt_of_le h.lt hb.size, (hb.cell (p := ⟨w0.heap.size, 0, none⟩) hC).trans h.c0, (hb.cell (p := ⟨w0.heap.size, 1, none⟩) hC).trans h.c1, (hb.cell (p := ⟨w0.heap.size, 2, none⟩) hC).trans h.c2, h.B.trans (hb.mono (Nat.le_of_lt hC))⟩
theorem RB.off {w0 w w' : World} {s t : ByteArray} (h : RB w0 s t w) (hb : Below w.heap.size w w') : RB w0 s t w' := h.on hb h.lt
theorem RB.drewN {w0 w : World} {s t : ByteArray} (h : RB w0 s t w) (n : Nat) : RB w0 s t (w.drewN n) := ⟨h.lt, h.c0, h.c1, h.c2, below_drewN h.B n⟩
/-- What stands ready ahead of the gcd, in whichever order it was made. -/
structure GK (w : World) (s t : ByteArray) (z pa pb a b : Nat) (W : World) : Prop where
  x : RB w s t W
  r : Rec W z
  zl : w.heap.size < z
  i : ∃ A B, IntAt A B W pa false a ∧ B ≤ W.heap.size ∧ (B ≤ z ∨ z < A)
  j : ∃ A B, IntAt A B W pb false b ∧ B ≤ W.heap.size ∧ (B ≤ z ∨ z < A)
theorem gk1 {w w2 w3 w4 : World} {s t : ByteArray} {pa pb a b : Nat} {u0 u1 : Value} (X : RB w s t w2)
    (I3 : IntAt (w2.alloc (.cells #[u0, u1] 71)).drew.heap.size w3.heap.size w3 pa false a) (B3 : Below (w2.alloc (.cells #[u0, u1] 71)).drew.heap.size (w2.alloc (.cells #[u0, u1] 71)).drew w3)
    (I4 : IntAt w3.heap.size w4.heap.size w4 pb false b) (B4 : Below w3.heap.size w3 w4) : GK w s t w2.heap.size pa pb a b w4 := by
  have R := (rec_new w2 u0 u1 71).drew
  have h3 := B3.size
  have h4 := B4.size
  have hs : (w2.alloc (.cells #[u0, u1] 71)).drew.heap.size = w2.heap.size + 1 := World.size_alloc _ _
  rw [hs] at I3
  exact ⟨(((X.off (alloc_below _ _)).drewN 1).off B3).off B4, (R.on B3 R.lt).on B4 (by omega), X.lt, ⟨_, _, I3.on B4 (Nat.le_refl _), h4, .inr (by omega)⟩, ⟨_, _, I4, Nat.le_refl _, .inr (by omega)⟩⟩
theorem gk2 {w w2 w3 w4 : World} {s t : ByteArray} {pa pb a b : Nat} {u0 u1 : Value} (X : RB w s t w2)
    (I3 : IntAt w2.heap.size w3.heap.size w3 pa false a) (B3 : Below w2.heap.size w2 w3)
    (I4 : IntAt (w3.alloc (.cells #[u0, u1] 71)).heap.size w4.heap.size w4 pb false b) (B4 : Below (w3.alloc (.cells #[u0, u1] 71)).heap.size (w3.alloc (.cells #[u0, u1] 71)) w4) : GK w s t w3.heap.size pa pb a b w4 := by
  have R := rec_new w3 u0 u1 71
  have h3 := B3.size
  have h4 := B4.size
  have hs : (w3.alloc (.cells #[u0, u1] 71)).heap.size = w3.heap.size + 1 := World.size_alloc _ _
  rw [hs] at I4
  refine ⟨((X.off B3).off (alloc_below _ _)).off B4, R.on B4 R.lt, Nat.lt_of_lt_of_le X.lt h3, ⟨_, _, (I3.on (alloc_below _ (.cells #[u0, u1] 71)) (Nat.le_refl _)).on B4 (by omega), by omega, .inl (Nat.le_refl _)⟩, ⟨_, _, I4, Nat.le_refl _, .inr (by omega)⟩⟩
theorem gk3 {w w2 w3 w4 : World} {s t : ByteArray} {pa pb a b : Nat} {u0 u1 : Value} (X : RB w s t w2)
    (I3 : IntAt w2.heap.size w3.heap.size w3 pa false a) (B3 : Below w2.heap.size w2 w3)
    (I4 : IntAt w3.heap.size w4.heap.size w4 pb false b) (B4 : Below w3.heap.size w3 w4) : GK w s t w4.heap.size pa pb a b (w4.alloc (.cells #[u0, u1] 71)) := by
  have R := rec_new w4 u0 u1 71
  have h3 := B3.size
  have h4 := B4.size
  have hs : (w4.alloc (.cells #[u0, u1] 71)).heap.size = w4.heap.size + 1 := World.size_alloc _ _
  refine ⟨((X.off B3).off B4).off (alloc_below _ _), R, by have := X.lt; omega, ⟨_, _, (I3.on B4 (Nat.le_refl _)).on (alloc_below _ _) h4, by omega, .inl h4⟩, ⟨_, _, I4.on (alloc_below _ _) (Nat.le_refl _), by omega, .inl (Nat.le_refl _)⟩⟩
theorem gk_any {w W : World} {s t : ByteArray} {z pa pb a b : Nat} (h : GK w s t z pa pb a b W) :
    Calls Try.prog 39 #[.pointer (some ⟨z, 0, none⟩), .pointer none, .pointer none, .pointer (some ⟨pa, 0, none⟩), .pointer (some ⟨pb, 0, none⟩)] W fun e w' => e = .returned (.pointer (some ⟨z, 0, none⟩)) ∧ IntAt 0 w'.heap.size w' z false (Nat.gcd a b) ∧ RB w s t w' := by
  obtain ⟨A, B, hi, hB, hz⟩ := h.i
  obtain ⟨C, D, hj, hD, hz2⟩ := h.j
  exact (wGCD_any a b z pa pb A B C D W h.r hi hj hB hD hz hz2).mono fun _ _ ⟨e1, e2, e3⟩ => ⟨e1, e2, h.x.on e3 h.zl⟩
theorem whole_enc (x : Nat) (h : x < 4294967296) (W : World) :
    Calls Try.prog 40 #[.string (enc x)] W fun e w' => ∃ p, e = .returned (.pointer (some ⟨p, 0, none⟩)) ∧ IntAt W.heap.size w'.heap.size w' p false x ∧ Below W.heap.size W w' :=
  (whole_any (enc x) (enc_small x h) W).mono fun _ _ ⟨e1, e2, e3⟩ => ⟨_, e1, by rw [bval_enc] at e2; exact e2, e3⟩
theorem newint_p (x : Nat) (h : x < 4294967296) (W : World) :
    Calls Try.prog 22 #[.int .i64 (x : Nat)] W fun e w' => ∃ p, e = .returned (.pointer (some ⟨p, 0, none⟩)) ∧ IntAt W.heap.size w'.heap.size w' p false x ∧ Below W.heap.size W w' :=
  (newint_any x h W).mono fun _ _ ⟨e1, e2, e3⟩ => ⟨_, e1, e2, e3⟩
set_option maxHeartbeats 2000000 in
set_option maxRecDepth 20000 in
theorem rmay_any (a b : Nat) (ha : a < 4294967296) (hb0 : 0 < b) (hb : b < 4294967296) (hg : Nat.gcd a b = 1) (w : World) :
    Calls Try.prog 24 #[ratV a b] w fun e w' => e = .returned (.bool true) ∧ Below w.heap.size w w' := by
  have HCA := Lib.hid fun W => Check_any (enc a) W (by have := enc_small a ha; unfold maxLen; omega)
  have HCB := Lib.hid fun W => Check_any (enc b) W (by have := enc_small b hb; unfold maxLen; omega)
  rw [if_pos (enc_ok a ha)] at HCA
  rw [if_pos (enc_ok b hb)] at HCB
  unfold ratV
  rcases Nat.eq_zero_or_pos a with rfl | ha0
  · rw [Nat.gcd_zero_left] at hg
    subst hg
    have e0 : enc 0 = ⟨#[]⟩ := by rfl
    have e1 : enc 1 = ⟨#[1]⟩ := by rfl
    rw [e0] at HCA ⊢
    rw [e1] at HCB ⊢
    have X0 := Lib.hid (RB.new w ⟨#[]⟩ ⟨#[1]⟩)
    go_enter Try.func24, Try.ntmps24
    go_wp2_with (first | (go_at_call 38; refine (HCA.out _).mono ?_; rintro e w1 ⟨rfl, B1⟩; have X1 := Lib.hid (X0.out.off B1); have k0 := X1.out.c0; have k1 := X1.out.c1; have k2 := X1.out.c2) | (go_at_call 38; refine (HCB.out _).mono ?_; rintro e w2 ⟨rfl, B2⟩; have X2 := Lib.hid (X1.out.off B2); have m0 := X2.out.c0; have m1 := X2.out.c1; have m2 := X2.out.c2))
    go_ret
    exact ⟨rfl, X2.out.B⟩
  · have X0 := Lib.hid (RB.new w (enc a) (enc b))
    have na : (enc a).toList.isEmpty = false := by rw [isEmpty_size, decide_eq_false_iff_not]; exact fun h => enc_ne a ha0 (ByteArray.ext (Array.eq_empty_of_size_eq_zero h))
    have nb : (enc b).toList.isEmpty = false := by rw [isEmpty_size, decide_eq_false_iff_not]; exact fun h => enc_ne b hb0 (ByteArray.ext (Array.eq_empty_of_size_eq_zero h))
    have HWA := Lib.hid fun W => whole_enc a ha W
    have HWB := Lib.hid fun W => whole_enc b hb W
    have HGK := Lib.hid fun z pa pb W (h : GK w (enc a) (enc b) z pa pb a b W) => gk_any h
    have HN := Lib.hid fun W => newint_p 1 (by omega) W
    have HCM := Lib.hid fun A B C D p q W (h1 : IntAt A B W p false (Nat.gcd a b)) (h2 : IntAt C D W q false 1) => wCmp_any (Nat.gcd a b) 1 A B C D p q W h1 h2
    rw [hg] at HCM HGK
    rw [cmpV_eq] at HCM
    go_enter Try.func24, Try.ntmps24
    go_wp2_with (first | (go_at_call 38; refine (HCA.out _).mono ?_; rintro e w1 ⟨rfl, B1⟩; have X1 := Lib.hid (X0.out.off B1); have k0 := X1.out.c0; have k1 := X1.out.c1; have k2 := X1.out.c2) | (go_at_call 38; refine (HCB.out _).mono ?_; rintro e w2 ⟨rfl, B2⟩; have X2 := Lib.hid (X1.out.off B2); have m0 := X2.out.c0; have m1 := X2.out.c1; have m2 := X2.out.c2))
    go_region_held3 (fun W => W.cell? ⟨w.heap.size, 1, none⟩ = some (.string (enc a)) ∧ W.cell? ⟨w.heap.size, 2, none⟩ = some (.string (enc b))) (exact ⟨by first | assumption | exact ((X2.out.drewN _).off (alloc_below _ _)).c1 | exact (X2.out.off (alloc_below _ _)).c1 | exact (X3.out.off (alloc_below _ _)).c1 | exact (X4.out.off (alloc_below _ _)).c1, by first | assumption | exact ((X2.out.drewN _).off (alloc_below _ _)).c2 | exact (X2.out.off (alloc_below _ _)).c2 | exact (X3.out.off (alloc_below _ _)).c2 | exact (X4.out.off (alloc_below _ _)).c2⟩) (first
      | (go_at_call 40; refine (HWA.out _).mono ?_; rintro e w3 ⟨pa, rfl, I3, B3⟩; have X3 := (show Hid (RB w (enc a) (enc b) w3) from by first | exact (X2.out.drewN _).off B3 | exact ((X2.out.drewN _).off (alloc_below _ _)).off B3); have n1 := X3.out.c1; have n2 := X3.out.c2)
      | (go_at_call 40; refine (HWB.out _).mono ?_; rintro e w4 ⟨pb, rfl, I4, B4⟩; have X4 := (show Hid (RB w (enc a) (enc b) w4) from by first | exact X3.out.off B4 | exact (X3.out.off (alloc_below _ _)).off B4); have l1 := X4.out.c1; have l2 := X4.out.c2)
      | (go_at_call 39; have GG := gk1 X2.out I3 B3 I4 B4; refine (HGK.out _ _ _ _ GG).mono ?_; rintro e w5 ⟨rfl, I5, X5⟩; have r1 := X5.c1; have r2 := X5.c2)
      | (go_at_call 39; have GG := gk2 (X2.out.drewN _) I3 B3 I4 B4; refine (HGK.out _ _ _ _ GG).mono ?_; rintro e w5 ⟨rfl, I5, X5⟩; have r1 := X5.c1; have r2 := X5.c2)
      | (go_at_call 39; have GG := gk3 (u0 := .bool false) (u1 := .slice none 0 0) (X2.out.drewN _) I3 B3 I4 B4; refine (HGK.out _ _ _ _ GG).mono ?_; rintro e w5 ⟨rfl, I5, X5⟩; have r1 := X5.c1; have r2 := X5.c2)
      | (go_at_call 22; refine (HN.out _).mono ?_; rintro e w6 ⟨pc, rfl, I6, B6⟩; have I7 := I5.on B6 (Nat.le_refl _); have X6 := X5.off B6; have t1 := X6.c1; have t2 := X6.c2)
      | (go_at_call 21; refine (HCM.out _ _ _ _ _ _ _ I7 I6).mono ?_; rintro e w7 ⟨n, rfl, rfl⟩))
    all_goals
      go_wp2
      go_ret
      exact ⟨rfl, (X6.drewN _).B⟩
end Go.Proofs.Ytacpakmglmfgnaa
