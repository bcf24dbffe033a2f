/-
  The walk of Sum.
-/
import Derived.Test.YtfhkpkebiinglaaCmpx
namespace Go.Proofs.Ytfhkpkebiinglaa
open Go.RowKit

/-- The numbers' sum. -/
def sumv : List ByteArray → Nat
  | [] => 0
  | s :: l => bval s + sumv l
theorem sumv_append (a b : List ByteArray) : sumv (a ++ b) = sumv a + sumv b := by
  induction a with
  | nil => simp [sumv]
  | cons s a ih => simp only [List.cons_append, sumv, ih]; omega
theorem sumv_take (S : List ByteArray) (i : Nat) (h : i < S.length) : sumv (S.take (i + 1)) = sumv (S.take i) + bval S[i] := by
  rw [List.take_succ_eq_append_getElem h, sumv_append]; simp [sumv]
theorem sumv_lt (k : Nat) : ∀ (S : List ByteArray), (∀ s ∈ S, s.size ≤ k) → sumv S < (S.length + 1) * 256 ^ k := by
  intro S
  induction S with
  | nil => intro _; simp [sumv]; exact Nat.pow_pos (by omega)
  | cons s S ih =>
    intro h
    have h1 := ih fun x hx => h x (by simp [hx])
    have h2 : bval s < 256 ^ k := Nat.lt_of_lt_of_le (bval_lt s) (Nat.pow_le_pow_right (by omega) (h s (by simp)))
    simp only [sumv, List.length_cons]
    rw [Nat.add_mul (S.length + 1) 1]
    omega
theorem sumv_digs (S : List ByteArray) (h : ∀ s ∈ S, Ok s) (hl : S.length ≤ 17592186044416) : (digs 4294967296 (sumv S)).length ≤ 4098 ∧ (digs 256 (sumv S)).length ≤ 16392 := by
  obtain ⟨k, hk⟩ : ∃ k, k = 16384 := ⟨_, rfl⟩
  have h1 := sumv_lt k S fun s hs => by have := (h s hs).1; omega
  have h2 : (S.length + 1) * 256 ^ k ≤ 256 ^ 8 * 256 ^ k := Nat.mul_le_mul_right _ (by omega)
  rw [← Nat.pow_add] at h2
  have h3 : sumv S < 256 ^ (8 + k) := by omega
  constructor
  · obtain ⟨m, hm⟩ : ∃ m, m = 4098 := ⟨_, rfl⟩
    rw [← hm]
    refine limbs_len ?_
    have : 4 * m = 8 + k := by omega
    rw [this]; exact h3
  · obtain ⟨m, hm⟩ : ∃ m, m = 16392 := ⟨_, rfl⟩
    rw [← hm]
    rw [digs_len (by omega)]
    have : m = 8 + k := by omega
    rw [this]; exact h3

set_option maxRecDepth 20000 in
theorem Sum_any (ao : Option Addr) (n cap : Nat) (S : List ByteArray) (hn : S.length = n) (hl : n ≤ 17592186044416) (w : World) (hS : ∀ s ∈ S, s.size ≤ maxLen) (h : VRow w ao cap (S.map .string)) :
    Calls Try.prog 34 #[.slice ao n cap] w fun e w' => e = .returned (if ∀ s ∈ S, Ok s then endN (sumv S) else .tuple #[.string ⟨#[]⟩, .int .i64 2]) ∧ Below w.heap.size w w' := by
  subst hn
  have HM := Lib.hid (may_any ao cap S w hS h)
  have hm := h.max
  have hle := h.le
  rw [List.length_map] at hle
  unfold maxLen at hm
  have HC : Hid (∀ i (hi : i < S.length) W, Below w.heap.size w W → ∃ b, ao = some ⟨b, 0, none⟩ ∧ b < w.heap.size ∧ W.cell? ⟨b, i, none⟩ = some (.string S[i])) := fun i hi W hW => by
    obtain ⟨b, e, hb, hc⟩ := h.cell i (by rw [List.length_map]; exact hi)
    refine ⟨b, e, hb, ?_⟩
    rw [hW.cell (p := ⟨b, i, none⟩) hb, hc]
    simp
  clear h hS
  by_cases hok : ∀ s ∈ S, Ok s
  · rw [decide_eq_true hok] at HM
    rw [if_pos hok]
    have HOK := Lib.hid hok
    clear hok
    go_enter Try.func34, Try.ntmps34
    go_wp2_with (go_at_call 58; refine HM.out.mono ?_; rintro e w1 ⟨rfl, rfl⟩)
    go_loopw [4, 12] (fun vs vi wr => ∃ i asl ns cs, i ≤ S.length ∧ vi = .int .i64 ((i : Nat) : Int) ∧ vs = .slice asl ns cs ∧ Hid ((digs 4294967296 (sumv (S.take i))).length = ns) ∧ Hid (RowAt wr .u32 asl cs (digs 4294967296 (sumv (S.take i)))) ∧ Hid (Below w.heap.size w wr)) (fun _ vi _ => S.length - (intOf vi).toNat)
    case atStart => exact ⟨0, none, 0, 0, Nat.zero_le _, rfl, rfl, rfl, RowAt.none _ _, Below.refl _ _⟩
    case round =>
      obtain ⟨i, asl, ns, cs, hi, rfl, rfl, HN, HR, HBW⟩ := hrel
      by_cases hlt : i < S.length
      · obtain ⟨b, rfl, hb, hc⟩ := HC.out i hlt wr HBW.out
        have hoks := HOK.out _ (List.getElem_mem hlt)
        have HA := Lib.hid fun W => open_row S[i] hoks.1 W
        have HT := Lib.hid (sumv_take S i hlt)
        have hd := (sumv_digs (S.take i) (fun s hs => HOK.out s (List.mem_of_mem_take hs)) (by rw [List.length_take]; omega)).1
        rw [HN.out] at hd
        have HU := Lib.hid fun ab cb B hB hl2 W rA rB => add_any asl ab cs cb (digs 4294967296 (sumv (S.take i))) B (digs_lt (by omega) _) hB (by rw [HN.out]; omega) hl2 W rA rB
        rw [HN.out, dval_digs (by omega)] at HU
        generalize S[i] = s at *
        have hb2 : b < wr.heap.size := Nat.lt_of_lt_of_le hb HBW.out.size
        clear hoks
        go_wp2_with (first | (go_at_call 60; with_reducible refine (HA.out _).mono ?_; rintro e w2 ⟨aa, ca, LA, rfl, RA, VA, SA, NA, B2⟩) | (go_at_call 74; have HG := Lib.hid (HU.out aa ca LA SA.out (by omega) _ (HRow HR.out B2) RA.out); rw [VA.out] at HG; refine HG.out.mono ?_; intro e w4 hg; obtain ⟨v4, rfl, ho4, B4⟩ := hg; obtain ⟨a4, c4, rfl, r4⟩ := own_slice ho4; have R4 := Lib.hid r4; clear r4 ho4))
        go_roundw
        case rel => exact ⟨i + 1, a4, _, c4, by omega, by go_num, rfl, by rw [HT.out]; rfl, by rw [HT.out]; exact R4, (HBW.out.on B2).on B4⟩
        case measure => simp [intOf]; omega
      · have hie : i = S.length := by omega
        subst hie
        have e : S.take S.length = S := List.take_length
        rw [e] at HR HN
        have hd := (sumv_digs S HOK.out (by omega)).1
        have HSH := Lib.hid (row_shut HR.out (by omega))
        rw [HN.out] at HSH
        clear e hd
        go_wp2_with (go_at_call 61; refine HSH.out.mono ?_; rintro e w5 ⟨rfl, B5⟩; unfold endN)
        go_ret2
        exact ⟨rfl, HBW.out.on B5⟩
  · rw [decide_eq_false hok] at HM
    rw [if_neg hok]
    clear hok
    go_enter Try.func34, Try.ntmps34
    go_wp2_with (go_at_call 58; refine HM.out.mono ?_; rintro e w1 ⟨rfl, rfl⟩)
    go_ret2
    exact ⟨rfl, Below.refl _ _⟩
end Go.Proofs.Ytfhkpkebiinglaa
