/-
  The walk of Div, over what div is known to do.
-/
import Derived.Test.YtfhkpkebiinglaaTxw
namespace Go.Proofs.Ytfhkpkebiinglaa
open Go.RowKit

/-- What Div answers. -/
def divN (x y : Nat) : Value := if y = 0 then .tuple #[.string ⟨#[]⟩, .string ⟨#[]⟩, .int .i64 21] else .tuple #[.string (enc (x / y)), .string (enc (x % y)), .int .i64 0]
/-- div is right at the divisor y. -/
def DivAtY (y : Nat) : Prop := ∀ (aa ab : Option Addr) (ca cb : Nat) (A B : List Nat), (∀ d ∈ A, d < 4294967296) → (∀ d ∈ B, d < 4294967296) → A.length ≤ 4096 → B.length ≤ 4096 → dval 4294967296 B = y → ∀ w : World, RowAt w .u32 aa ca A → RowAt w .u32 ab cb B →
    Calls Try.prog 65 #[.slice aa A.length ca, .slice ab B.length cb] w (DivPost (dval 4294967296 A) (dval 4294967296 B) w)
theorem divAtY_small (y : Nat) (h0 : y ≠ 0) (h1 : y < 4294967296) : DivAtY y := by
  intro aa ab ca cb A B hA hB ha _ hy w rA rB
  subst hy
  by_cases hlt : dval 4294967296 A < dval 4294967296 B
  · exact div_lt aa ab ca cb A B hA hB w rA rB hlt
  · exact div_one aa ab ca cb A B hA hB (by omega) w rA rB (by omega) h1 h0
theorem enc_of_le {N : Nat} {a : ByteArray} (h : N ≤ bval a) (ha : Ok a) : endS N = enc N ∧ (digs 4294967296 N).length ≤ 1000000 := by
  have h1 : (digs 256 N).length ≤ a.size := by
    rw [digs_len (by omega)]
    exact Nat.lt_of_le_of_lt h (bval_lt a)
  have h3 := ha.1
  refine ⟨by unfold endS; rw [if_neg (by omega)], ?_⟩
  obtain ⟨k, hk⟩ : ∃ k, k = 4096 := ⟨_, rfl⟩
  refine Nat.le_trans (limbs_len (k := k) ?_) (by omega)
  exact Nat.lt_of_le_of_lt h (bval_lt4 a k (by have := ha.1; omega))

set_option maxRecDepth 20000 in
theorem Div_of (a b : ByteArray) (w : World) (ha : a.size ≤ maxLen) (hb : b.size ≤ maxLen) (hd : Ok a → Ok b → bval b ≠ 0 → DivAtY (bval b)) :
    Calls Try.prog 24 #[.string a, .string b] w fun e w' => e = .returned (if Ok a ∧ Ok b then divN (bval a) (bval b) else .tuple #[.string ⟨#[]⟩, .string ⟨#[]⟩, .int .i64 2]) ∧ Below w.heap.size w w' := by
  have HM := Lib.hid fun t ht => may_two a b w ha hb t ht
  by_cases hok : Ok a ∧ Ok b
  · have HM2 := Lib.hid (HM.out true (by simp [hok]))
    rw [if_pos hok]
    have hz : b.toList.isEmpty = decide (b.size = 0) := isEmpty_size b
    have h0 := ok_zero b hok.2
    by_cases hb0 : b.size = 0
    · have hR : Hid (divN (bval a) (bval b) = .tuple #[.string ⟨#[]⟩, .string ⟨#[]⟩, .int .i64 21]) := if_pos (h0.2 hb0)
      have hz2 : b.toList.isEmpty = true := by rw [hz]; simp [hb0]
      have hz3 : b.toList = [] := (toList_nil b).2 hb0
      clear hz h0 hok ha hb HM hd
      go_enter Try.func24, Try.ntmps24
      go_wp2_with (go_at_call 58; refine HM2.out.mono ?_; rintro e w1 ⟨rfl, B1⟩)
      go_ret3
      exact ⟨by rw [hR.out]; rfl, B1⟩
    · have hz2 : b.toList.isEmpty = false := by rw [hz]; simp [hb0]
      have hz3 : ¬ b.toList = [] := fun h => hb0 ((toList_nil b).1 h)
      have hy0 : bval b ≠ 0 := fun e => hb0 (h0.1 e)
      have hR : Hid (divN (bval a) (bval b) = .tuple #[.string (enc (bval a / bval b)), .string (enc (bval a % bval b)), .int .i64 0]) := if_neg hy0
      have HA := Lib.hid fun w => open_row a hok.1.1 w
      have HB := Lib.hid fun w => open_row b hok.2.1 w
      have HU := Lib.hid (hd hok.1 hok.2 hy0)
      obtain ⟨e1, l1⟩ := enc_of_le (Nat.div_le_self (bval a) (bval b)) hok.1
      obtain ⟨e2, l2⟩ := enc_of_le (Nat.mod_le (bval a) (bval b)) hok.1
      have HE1 := Lib.hid e1
      have HL1 := Lib.hid l1
      have HE2 := Lib.hid e2
      have HL2 := Lib.hid l2
      clear hz h0 hok ha hb HM hd hb0 hy0 e1 e2 l1 l2
      generalize bval a = x at *
      generalize bval b = y at *
      go_enter Try.func24, Try.ntmps24
      go_wp2_with (first | (go_at_call 58; refine HM2.out.mono ?_; rintro e w1 ⟨rfl, B1⟩) | (go_at_call 60; with_reducible refine (HA.out _).mono ?_; rintro e w2 ⟨aa, ca, LA, rfl, RA, VA, SA, NA, B2⟩) | (go_at_call 60; with_reducible refine (HB.out _).mono ?_; rintro e w3 ⟨ab, cb, LB, rfl, RB, VB, SB, NB, B3⟩) | (go_at_call 65; have HG := Lib.hid (HU.out aa ab ca cb LA LB SA.out SB.out NA NB VB.out w3 (RA.out.below B3 (Nat.le_refl _)) RB.out); rw [VA.out, VB.out] at HG; refine HG.out.mono ?_; rintro e w4 ⟨aq, cq, ar, cr, rfl, rq, rr, B4⟩; have RQ := Lib.hid (row_shut rq HL1.out); have RR := Lib.hid rr; clear rq rr; unfold endN at RQ; rw [HE1.out] at RQ; generalize (digs 4294967296 (x / y)).length = nq at RQ; have RR2 := Lib.hid (fun W (h : Below w4.heap.size w4 W) => row_shut (RR.out.below h (Nat.le_refl _)) HL2.out); unfold endN at RR2; rw [HE2.out] at RR2; generalize (digs 4294967296 (x % y)).length = nr at RR2) | (go_at_call 61; with_reducible refine RQ.out.mono ?_; rintro e w5 ⟨rfl, B5⟩) | (go_at_call 61; with_reducible refine (RR2.out _ B5).mono ?_; rintro e w6 ⟨rfl, B6⟩))
      go_ret3
      exact ⟨by rw [hR.out]; rfl, ((((B1.on B2).on B3).on B4).on B5).on B6⟩
  · have HM2 := Lib.hid (HM.out false (by simp only [hok, decide_false]))
    rw [if_neg hok]
    clear hok HM hd
    go_enter Try.func24, Try.ntmps24
    go_wp2_with (go_at_call 58; refine HM2.out.mono ?_; rintro e w1 ⟨rfl, B1⟩)
    go_ret3
    exact ⟨rfl, B1⟩
end Go.Proofs.Ytfhkpkebiinglaa
