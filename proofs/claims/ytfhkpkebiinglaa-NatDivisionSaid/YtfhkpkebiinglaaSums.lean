/-
  The walks of Add and Sub.
-/
import Derived.Test.YtfhkpkebiinglaaDsm
namespace Go.Proofs.Ytfhkpkebiinglaa
open Go.RowKit

theorem gave_shut {N : Nat} {w0 w' : World} {e : Ending} (h : GaveRow 91 .u32 (digs 4294967296 N) w0 e w') (hN : (digs 4294967296 N).length ≤ 1000000) :
    ∃ ap n cp, e = .returned (.slice ap n cp) ∧ Hid (Calls Try.prog 61 #[.slice ap n cp] w' fun e w'' => e = .returned (endN N) ∧ Below w'.heap.size w' w'') ∧ Below w0.heap.size w0 w' := by
  obtain ⟨v, rfl, ho, hb⟩ := h
  obtain ⟨ap, cp, rfl, r⟩ := own_slice ho
  refine ⟨ap, _, cp, rfl, ?_, hb⟩
  have := shut_end ap cp _ (digs_lt (by omega) N) hN w' r
  rw [dval_digs (by omega)] at this
  exact this
theorem row_shut {N : Nat} {w' : World} {ap : Option Addr} {cp : Nat} (r : RowAt w' .u32 ap cp (digs 4294967296 N)) (hN : (digs 4294967296 N).length ≤ 1000000) :
    Calls Try.prog 61 #[.slice ap (digs 4294967296 N).length cp] w' fun e w'' => e = .returned (endN N) ∧ Below w'.heap.size w' w'' := by
  have := shut_end ap cp _ (digs_lt (by omega) N) hN w' r
  rw [dval_digs (by omega)] at this
  exact this
theorem limbs_len {N k : Nat} (h : N < 256 ^ (4 * k)) : (digs 4294967296 N).length ≤ k := by
  rw [digs_len (by omega)]
  have : (4294967296 : Nat) = 256 ^ 4 := rfl
  rw [this, ← Nat.pow_mul]; exact h
theorem bval_lt (s : ByteArray) : bval s < 256 ^ s.size := by
  have := dval_lt 256 (bytesR s) (bytesR_lt s)
  rwa [bytesR_len] at this
theorem bval_lt4 (s : ByteArray) (k : Nat) (h : s.size ≤ 4 * k) : bval s < 256 ^ (4 * k) := Nat.lt_of_lt_of_le (bval_lt s) (Nat.pow_le_pow_right (by omega) h)
theorem four_k (k : Nat) : (256 : Nat) ^ (4 * (k + 1)) = 256 ^ (4 * k) * 4294967296 := by rw [show 4 * (k + 1) = 4 * k + 4 by omega, Nat.pow_add]

/-- The two numbers' test, ahead of a walk. -/
theorem may_two (a b : ByteArray) (w : World) (ha : a.size ≤ maxLen) (hb : b.size ≤ maxLen) (t : Bool) (ht : t = decide (Ok a ∧ Ok b)) :
    Calls Try.prog 58 #[.slice (some ⟨w.heap.size, 0, none⟩) 2 2] (w.alloc (.cells #[.string a, .string b] 22)) fun e w' => e = .returned (.bool t) ∧ Below w.heap.size w w' := by
  have HS : ∀ s ∈ [a, b], s.size ≤ maxLen := by intro s hs; simp at hs; rcases hs with rfl | rfl <;> assumption
  refine (may_any (some ⟨w.heap.size, 0, none⟩) 2 [a, b] _ HS (two_row a b w)).mono ?_
  rintro e w' ⟨rfl, rfl⟩
  refine ⟨?_, two_below w _⟩
  rw [ht]
  congr 2
  simp
theorem may_one (a : ByteArray) (w : World) (ha : a.size ≤ maxLen) (t : Bool) (ht : t = decide (Ok a)) :
    Calls Try.prog 58 #[.slice (some ⟨w.heap.size, 0, none⟩) 1 1] (w.alloc (.cells #[.string a] 22)) fun e w' => e = .returned (.bool t) ∧ Below w.heap.size w w' := by
  refine (may_any (some ⟨w.heap.size, 0, none⟩) 1 [a] _ (by simpa using ha) (one_row a w)).mono ?_
  rintro e w' ⟨rfl, rfl⟩
  refine ⟨?_, two_below w _⟩
  rw [ht]
  congr 2
  simp
/-- Opening: the limbs, readable. -/
theorem open_row (s : ByteArray) (hs : s.size ≤ 16384) (w : World) :
    Calls Try.prog 60 #[.string s] w fun e w' => ∃ ao cap L, e = .returned (.slice ao L.length cap) ∧ Hid (RowAt w' .u32 ao cap L) ∧ Hid (dval 4294967296 L = bval s) ∧ Hid (∀ d ∈ L, d < 4294967296) ∧ L.length ≤ 4096 ∧ Below w.heap.size w w' := by
  refine (open_any s (by omega) w).mono ?_
  rintro e w' ⟨v, L, rfl, o, h1, h2, h3, h4⟩
  obtain ⟨ao, cap, rfl, r⟩ := own_slice o
  exact ⟨ao, cap, L, rfl, r, h1, h2, by omega, h4⟩

set_option maxRecDepth 20000 in
theorem Add_any (a b : ByteArray) (w : World) (ha : a.size ≤ maxLen) (hb : b.size ≤ maxLen) :
    Calls Try.prog 32 #[.string a, .string b] w fun e w' => e = .returned (if Ok a ∧ Ok b then endN (bval a + bval b) else .tuple #[.string ⟨#[]⟩, .int .i64 2]) ∧ Below w.heap.size w w' := by
  have HM := Lib.hid fun t ht => may_two a b w ha hb t ht
  by_cases hok : Ok a ∧ Ok b
  · have HM2 := Lib.hid (HM.out true (by simp [hok]))
    rw [if_pos hok]
    have HA := Lib.hid fun w => open_row a hok.1.1 w
    have HB := Lib.hid fun w => open_row b hok.2.1 w
    have HLN : Hid ((digs 4294967296 (bval a + bval b)).length ≤ 1000000) := by
      show _ ≤ _
      obtain ⟨k, hk⟩ : ∃ k, k = 4096 := ⟨_, rfl⟩
      refine Nat.le_trans (limbs_len (k := k + 1) ?_) (by omega)
      have h1 := bval_lt4 a k (by have := hok.1.1; omega)
      have h2 := bval_lt4 b k (by have := hok.2.1; omega)
      rw [four_k]
      generalize (256 : Nat) ^ (4 * k) = P at *
      omega
    have HU := Lib.hid fun aa ab ca cb A B hA hB hl hl2 w rA rB => add_any aa ab ca cb A B hA hB hl hl2 w rA rB
    clear hok ha hb HM
    go_enter Try.func32, Try.ntmps32
    go_wp2_with (first | (go_at_call 58; refine HM2.out.mono ?_; rintro e w1 ⟨rfl, B1⟩) | (go_at_call 60; with_reducible refine (HA.out _).mono ?_; rintro e w2 ⟨aa, ca, LA, rfl, RA, VA, SA, NA, B2⟩) | (go_at_call 60; with_reducible refine (HB.out _).mono ?_; rintro e w3 ⟨ab, cb, LB, rfl, RB, VB, SB, NB, B3⟩) | (go_at_call 74; have HG := Lib.hid (HU.out aa ab ca cb LA LB SA.out SB.out (by omega) (by omega) w3 (RA.out.below B3 (Nat.le_refl _)) RB.out); rw [VA.out, VB.out] at HG; refine HG.out.mono ?_; intro e w4 hg; obtain ⟨ap, n4, cp, rfl, CS, B4⟩ := gave_shut hg HLN.out; clear hg) | (go_at_call 61; refine CS.out.mono ?_; rintro e w5 ⟨rfl, B5⟩; unfold endN))
    go_ret2
    exact ⟨rfl, (((B1.on B2).on B3).on B4).on B5⟩
  · have HM2 := Lib.hid (HM.out false (by simp only [hok, decide_false]))
    rw [if_neg hok]
    clear hok HM
    go_enter Try.func32, Try.ntmps32
    go_wp2_with (go_at_call 58; refine HM2.out.mono ?_; rintro e w1 ⟨rfl, B1⟩)
    go_ret2
    exact ⟨rfl, B1⟩

/-- What Sub answers. -/
def subN (x y : Nat) : Value := if x < y then .tuple #[.string ⟨#[]⟩, .int .i64 20] else endN (x - y)
set_option maxRecDepth 20000 in
theorem Sub_any (a b : ByteArray) (w : World) (ha : a.size ≤ maxLen) (hb : b.size ≤ maxLen) :
    Calls Try.prog 33 #[.string a, .string b] w fun e w' => e = .returned (if Ok a ∧ Ok b then subN (bval a) (bval b) else .tuple #[.string ⟨#[]⟩, .int .i64 2]) ∧ Below w.heap.size w w' := by
  have HM := Lib.hid fun t ht => may_two a b w ha hb t ht
  by_cases hok : Ok a ∧ Ok b
  · have HM2 := Lib.hid (HM.out true (by simp [hok]))
    rw [if_pos hok]
    have HA := Lib.hid fun w => open_row a hok.1.1 w
    have HB := Lib.hid fun w => open_row b hok.2.1 w
    have HLN : Hid ((digs 4294967296 (bval a - bval b)).length ≤ 1000000) := by
      show _ ≤ _
      obtain ⟨k, hk⟩ : ∃ k, k = 4096 := ⟨_, rfl⟩
      refine Nat.le_trans (limbs_len (k := k) ?_) (by omega)
      exact Nat.lt_of_le_of_lt (Nat.sub_le _ _) (bval_lt4 a k (by have := hok.1.1; omega))
    have HU := Lib.hid fun aa ab ca cb A B hA hB hl hle w rA rB => sub_any aa ab ca cb A B hA hB hl hle w rA rB
    have HC := Lib.hid fun aa ab ca cb A B hA hB w rA rB => cmp_any aa ab ca cb A B hA hB w rA rB
    clear hok ha hb HM
    by_cases hlt : bval a < bval b
    · have HR : Hid (subN (bval a) (bval b) = .tuple #[.string ⟨#[]⟩, .int .i64 20]) := if_pos hlt
      have HK : Hid (cmpN (bval a) (bval b) = -1) := cmpN_lt hlt
      clear hlt
      go_enter Try.func33, Try.ntmps33
      go_wp2_with (first | (go_at_call 58; refine HM2.out.mono ?_; rintro e w1 ⟨rfl, B1⟩) | (go_at_call 60; with_reducible refine (HA.out _).mono ?_; rintro e w2 ⟨aa, ca, LA, rfl, RA, VA, SA, NA, B2⟩) | (go_at_call 60; with_reducible refine (HB.out _).mono ?_; rintro e w3 ⟨ab, cb, LB, rfl, RB, VB, SB, NB, B3⟩) | (go_at_call 75; have HG := Lib.hid (HC.out aa ab ca cb LA LB SA.out SB.out w3 (RA.out.below B3 (Nat.le_refl _)) RB.out); rw [VA.out, VB.out, HK.out] at HG; refine HG.out.mono ?_; rintro e w4 ⟨rfl, B4⟩))
      go_ret2
      exact ⟨by rw [HR.out]; rfl, ((B1.on B2).on B3).on B4⟩
    · have HR : Hid (subN (bval a) (bval b) = endN (bval a - bval b)) := if_neg hlt
      have HGE : Hid (bval b ≤ bval a) := Nat.le_of_not_lt hlt
      obtain ⟨c, hc⟩ : ∃ c, c = cmpN (bval a) (bval b) := ⟨_, rfl⟩
      have hc0 : 0 ≤ c := by rw [hc]; exact cmpN_ge HGE.out
      have HK : Hid (cmpN (bval a) (bval b) = c) := hc.symm
      clear hlt hc
      go_enter Try.func33, Try.ntmps33
      go_wp2_with (first | (go_at_call 58; refine HM2.out.mono ?_; rintro e w1 ⟨rfl, B1⟩) | (go_at_call 60; with_reducible refine (HA.out _).mono ?_; rintro e w2 ⟨aa, ca, LA, rfl, RA, VA, SA, NA, B2⟩) | (go_at_call 60; with_reducible refine (HB.out _).mono ?_; rintro e w3 ⟨ab, cb, LB, rfl, RB, VB, SB, NB, B3⟩) | (go_at_call 75; have HG := Lib.hid (HC.out aa ab ca cb LA LB SA.out SB.out w3 (RA.out.below B3 (Nat.le_refl _)) RB.out); rw [VA.out, VB.out, HK.out] at HG; refine HG.out.mono ?_; rintro e w4 ⟨rfl, B4⟩) | (go_at_call 76; have HG := Lib.hid (HU.out aa ab ca cb LA LB SA.out SB.out (by omega) (by rw [VA.out, VB.out]; exact HGE.out) w4 (RA.out.below (B3.on B4) (Nat.le_refl _)) (RB.out.below B4 (Nat.le_refl _))); rw [VA.out, VB.out] at HG; refine HG.out.mono ?_; intro e w5 hg; obtain ⟨ap, n4, cp, rfl, CS, B5⟩ := gave_shut hg HLN.out; clear hg) | (go_at_call 61; refine CS.out.mono ?_; rintro e w6 ⟨rfl, B6⟩; unfold endN))
      go_ret2
      exact ⟨by rw [HR.out]; rfl, ((((B1.on B2).on B3).on B4).on B5).on B6⟩
  · have HM2 := Lib.hid (HM.out false (by simp only [hok, decide_false]))
    rw [if_neg hok]
    clear hok HM
    go_enter Try.func33, Try.ntmps33
    go_wp2_with (go_at_call 58; refine HM2.out.mono ?_; rintro e w1 ⟨rfl, B1⟩)
    go_ret2
    exact ⟨rfl, B1⟩
end Go.Proofs.Ytfhkpkebiinglaa
