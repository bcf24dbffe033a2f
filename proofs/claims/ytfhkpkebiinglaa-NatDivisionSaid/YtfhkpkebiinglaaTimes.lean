/-
  The walk of Mul.
-/
import Derived.Test.YtfhkpkebiinglaaMay
import Derived.Test.YtfhkpkebiinglaaMul
namespace Go.Proofs.Ytfhkpkebiinglaa
open Go.RowKit

theorem own_slice {w : World} {B e n : Nat} {k : IntKind} {v : Value} {L : List Nat} (h : w.ownsRow B e 1 v n (cu k L)) : ∃ ao cap, v = .slice ao L.length cap ∧ RowAt w k ao cap L := by
  have hl : L.length = n := by have := h.1; simpa [cu] using this
  have h0 := h
  rcases h.2 with ⟨hv, hn⟩ | ⟨g, cap', cur, hv, hb, hg, hnc, hm, _, _⟩
  · subst hv
    have := own_row (ao := none) (n := 0) (cap := 0) (by rw [hn] at h0; exact h0)
    exact ⟨none, 0, by rw [this.1], this.2⟩
  · subst hv
    have := own_row h0
    exact ⟨_, _, by rw [← this.1], this.2⟩

theorem two_row (a b : ByteArray) (w : World) : VRow (w.alloc (.cells #[.string a, .string b] 22)) (some ⟨w.heap.size, 0, none⟩) 2 ([a, b].map .string) := by
  refine ⟨Nat.le_refl _, by unfold maxLen; omega, fun i hi => ⟨w.heap.size, rfl, by simp, ?_⟩⟩
  rw [World.cell?_alloc_at _ _ _ _ rfl]
  match i, hi with
  | 0, _ => rfl
  | 1, _ => rfl
theorem two_below (w : World) (c) : Below w.heap.size w (w.alloc c) := (Below.refl _ _).alloc (Nat.le_refl _) _
theorem two_ok (a b : ByteArray) : (∀ s ∈ [a, b], Ok s) ↔ Ok a ∧ Ok b := by simp
theorem bval_size (s : ByteArray) (h : s.size = 0) : bval s = 0 := by
  rw [(size_ne s).2 h]; rfl
theorem enc_zero : enc 0 = ⟨#[]⟩ := rfl

/-- What Mul answers. -/
def endS (n : Nat) : ByteArray := if 16384 < (digs 256 n).length then ⟨#[]⟩ else enc n
def endE (n : Nat) : Int := if 16384 < (digs 256 n).length then 4 else 0
def endN (n : Nat) : Value := .tuple #[.string (endS n), .int .i64 (endE n)]
theorem mul_len (A B : List Nat) (hA : ∀ d ∈ A, d < 4294967296) (hB : ∀ d ∈ B, d < 4294967296) : (digs 4294967296 (dval 4294967296 A * dval 4294967296 B)).length ≤ A.length + B.length := by
  rw [digs_len (by omega), Nat.pow_add]
  exact Nat.mul_lt_mul'' (dval_lt _ _ hA) (dval_lt _ _ hB)
theorem shut_end (ao : Option Addr) (cap : Nat) (L : List Nat) (hL : ∀ d ∈ L, d < 4294967296) (hl : L.length ≤ 1000000) (w : World) (h : RowAt w .u32 ao cap L) :
    Calls Try.prog 61 #[.slice ao L.length cap] w fun e w' => e = .returned (endN (dval 4294967296 L)) ∧ Below w.heap.size w w' := by
  unfold endN endS endE
  by_cases hg : 16384 < (digs 256 (dval 4294967296 L)).length
  · rw [if_pos hg, if_pos hg]
    refine (shut_long ao L.length cap L rfl hL hl w h hg).mono ?_
    rintro e w' ⟨rfl, rfl⟩
    exact ⟨rfl, Below.refl _ _⟩
  · rw [if_neg hg, if_neg hg]
    exact shut_any ao L.length cap L rfl hL hl w h (by omega)

theorem _root_.Go.RowKit.Below.on {w0 w1 w2 : World} (h : Below w0.heap.size w0 w1) (k : Below w1.heap.size w1 w2) : Below w0.heap.size w0 w2 := h.trans (k.mono h.size)
theorem ok_digs (s : ByteArray) (h : Ok s) : digs 256 (bval s) = bytesR s := by
  refine digs_dval (by omega) _ (bytesR_lt s) ?_
  unfold bytesR
  rw [List.getLast?_map, List.getLast?_reverse]
  intro e
  cases hl : s.data.toList with
  | nil => rw [hl] at e; cases e
  | cons x l =>
    rw [hl] at e
    simp at e
    have hp : 0 < s.size := by
      have : s.data.toList.length = s.size := by rw [Array.length_toList]; rfl
      rw [hl] at this
      simp at this
      omega
    refine h.2 hp ?_
    have hx : s[0] = x := by
      show s.data[0] = x
      rw [← Array.getElem_toList]
      simp [hl]
    rw [hx]
    exact UInt8.toNat_inj.1 e
theorem ok_len (s : ByteArray) (h : Ok s) : (digs 256 (bval s)).length = s.size := by rw [ok_digs s h, bytesR_len]
theorem mul_long (a b : ByteArray) (ha : Ok a) (hb : Ok b) (ha0 : a.size ≠ 0) (hb0 : b.size ≠ 0) (hg : 16385 < a.size + b.size) : 16384 < (digs 256 (bval a * bval b)).length := by
  have h1 := ok_len a ha
  have h2 := ok_len b hb
  have k1 := (digs_len (B := 256) (by omega) (bval a) (a.size - 1))
  have k2 := (digs_len (B := 256) (by omega) (bval b) (b.size - 1))
  have k3 := (digs_len (B := 256) (by omega) (bval a * bval b) ((a.size - 1) + (b.size - 1)))
  have m1 : 256 ^ (a.size - 1) ≤ bval a := Nat.le_of_not_lt fun h => by have := k1.2 h; omega
  have m2 : 256 ^ (b.size - 1) ≤ bval b := Nat.le_of_not_lt fun h => by have := k2.2 h; omega
  have m3 : ¬ bval a * bval b < 256 ^ ((a.size - 1) + (b.size - 1)) := by
    rw [Nat.pow_add]
    exact Nat.not_lt.2 (Nat.mul_le_mul m1 m2)
  have := mt k3.1 m3
  omega

set_option maxRecDepth 20000 in
theorem Mul_any (a b : ByteArray) (w : World) (ha : a.size ≤ maxLen) (hb : b.size ≤ maxLen) :
    Calls Try.prog 20 #[.string a, .string b] w fun e w' => e = .returned (if Ok a ∧ Ok b then endN (bval a * bval b) else .tuple #[.string ⟨#[]⟩, .int .i64 2]) ∧ Below w.heap.size w w' := by
  have hlong := mul_long a b
  have HS : Hid (∀ s ∈ [a, b], s.size ≤ maxLen) := by intro s hs; simp at hs; rcases hs with rfl | rfl <;> assumption
  have HM := Lib.hid (may_any (some ⟨w.heap.size, 0, none⟩) 2 [a, b] _ HS.out (two_row a b w))
  have HT := Lib.hid (two_below w (.cells #[.string a, .string b] 22))
  have e1 : [a, b].length = 2 := rfl
  rw [e1] at HM
  by_cases hok : Ok a ∧ Ok b
  · have ed : decide (∀ s ∈ [a, b], Ok s) = true := by rw [decide_eq_true_eq, two_ok]; exact hok
    rw [ed] at HM
    rw [if_pos hok]
    have hz : a.toList.isEmpty = decide (a.size = 0) := isEmpty_size a
    have hy : b.toList.isEmpty = decide (b.size = 0) := isEmpty_size b
    have ha1 := hok.1.1
    have hb1 := hok.2.1
    by_cases ha0 : a.size = 0
    · have hR : Hid (endN (bval a * bval b) = .tuple #[.string ⟨#[]⟩, .int .i64 0]) := by
        show _ = _
        rw [bval_size a ha0, Nat.zero_mul]; rfl
      have hz2 : a.toList.isEmpty = true := by rw [hz]; simp [ha0]
      have hz3 : a.toList = [] := (toList_nil a).2 ha0
      clear hz hy hlong hok ha hb ed
      go_enter Try.func20, Try.ntmps20
      go_wp2_with (go_at_call 58; refine HM.out.mono ?_; rintro e w1 ⟨rfl, hw1⟩; have B1 := HT.out; rw [hw1] at B1)
      go_ret2
      exact ⟨by rw [hR.out]; rfl, B1⟩
    · have hz2 : a.toList.isEmpty = false := by rw [hz]; simp [ha0]
      have hz3 : ¬ a.toList = [] := fun h => ha0 ((toList_nil a).1 h)
      by_cases hb0 : b.size = 0
      · have hR : Hid (endN (bval a * bval b) = .tuple #[.string ⟨#[]⟩, .int .i64 0]) := by
          show _ = _
          rw [bval_size b hb0, Nat.mul_zero]; rfl
        have hy2 : b.toList.isEmpty = true := by rw [hy]; simp [hb0]
        have hy3 : b.toList = [] := (toList_nil b).2 hb0
        clear hz hy hlong hok ha hb ed
        go_enter Try.func20, Try.ntmps20
        go_wp2_with (go_at_call 58; refine HM.out.mono ?_; rintro e w1 ⟨rfl, hw1⟩; have B1 := HT.out; rw [hw1] at B1)
        go_ret2
        exact ⟨by rw [hR.out]; rfl, B1⟩
      · have hy2 : b.toList.isEmpty = false := by rw [hy]; simp [hb0]
        have hy3 : ¬ b.toList = [] := fun h => hb0 ((toList_nil b).1 h)
        by_cases hgr : 16385 < a.size + b.size
        · have hR : Hid (endN (bval a * bval b) = .tuple #[.string ⟨#[]⟩, .int .i64 4]) := by
            show _ = _
            unfold endN endS endE
            rw [if_pos (hlong hok.1 hok.2 ha0 hb0 hgr), if_pos (hlong hok.1 hok.2 ha0 hb0 hgr)]
          clear hz hy hlong hok ha hb ed
          go_enter Try.func20, Try.ntmps20
          go_wp2_with (go_at_call 58; refine HM.out.mono ?_; rintro e w1 ⟨rfl, hw1⟩; have B1 := HT.out; rw [hw1] at B1)
          go_ret2
          exact ⟨by rw [hR.out]; rfl, B1⟩
        · have HA := Lib.hid fun w => open_any a (by omega) w
          have HB := Lib.hid fun w => open_any b (by omega) w
          clear hz hy hlong hok ha hb ed
          have HU := Lib.hid fun aa ab ca cb A B hA hB hl w rA rB => mul_any aa ab ca cb A B hA hB hl w rA rB
          have HE := Lib.hid fun ao cap L hL hl w h => shut_end ao cap L hL hl w h
          have HZ : Hid (a.size ≤ 16384 ∧ b.size ≤ 16384) := ⟨ha1, hb1⟩
          go_enter Try.func20, Try.ntmps20
          go_wp2_with (first | (go_at_call 58; refine HM.out.mono ?_; rintro e w1 ⟨rfl, hw1⟩; have B1 := HT.out; rw [hw1] at B1) | (go_at_call 60; with_reducible refine (HA.out _).mono ?_; rintro e w2 ⟨va, LA, rfl, oA, vA, lA, nA, B2⟩; obtain ⟨aa, ca, rfl, rA⟩ := own_slice oA; have RA := Lib.hid rA; have NA := Lib.hid nA; clear rA oA nA) | (go_at_call 60; with_reducible refine (HB.out _).mono ?_; rintro e w3 ⟨vb, LB, rfl, oB, vB, lB, nB, B3⟩; obtain ⟨ab, cb, rfl, rB⟩ := own_slice oB; have RB := Lib.hid rB; have NB := Lib.hid nB; clear rB oB nB) | (go_at_call 59; have hll : LA.length + LB.length ≤ 1000000 := by { have := HZ.out; rw [NA.out, NB.out]; omega }; have RA2 := RA.out.below B3 (Nat.le_refl _); refine (HU.out _ _ _ _ LA LB lA lB hll _ RA2 RB.out).mono ?_; rintro e w4 ⟨vp, rfl, oP, B4⟩; obtain ⟨ap, cp, rfl, rP⟩ := own_slice oP; have hlp := Nat.le_trans (mul_len LA LB lA lB) hll; have DL := digs_lt (B := 4294967296) (by omega) (dval 4294967296 LA * dval 4294967296 LB); have DV := dval_digs (B := 4294967296) (by omega) (dval 4294967296 LA * dval 4294967296 LB); rw [vA, vB] at rP hlp DL DV; rw [vA, vB]; clear oP; generalize digs 4294967296 (bval a * bval b) = D at rP hlp DL DV ⊢; have CS := Lib.hid (HE.out ap cp D DL hlp w4 rP); rw [DV] at CS; clear rP hlp DL DV) | (go_at_call 61; refine CS.out.mono ?_; rintro e w5 ⟨rfl, B5⟩; unfold endN))
          go_ret2
          exact ⟨rfl, (((B1.on B2).on B3).on B4).on B5⟩
  · have ed : decide (∀ s ∈ [a, b], Ok s) = false := by rw [decide_eq_false_iff_not, two_ok]; exact hok
    rw [ed] at HM
    rw [if_neg hok]
    clear hlong hok ed
    unfold maxLen at ha hb
    go_enter Try.func20, Try.ntmps20
    go_wp2_with (go_at_call 58; refine HM.out.mono ?_; rintro e w1 ⟨rfl, hw1⟩; have B1 := HT.out; rw [hw1] at B1)
    go_ret2
    exact ⟨rfl, B1⟩
end Go.Proofs.Ytfhkpkebiinglaa
