/-
  The walk of cmp: two rows compared.
-/
import Derived.Test.YtfhkpkebiinglaaAt
namespace Go.Proofs.Ytfhkpkebiinglaa
open Go.RowKit

/-- -1, 0, 1. -/
def cmpN (a b : Nat) : Int := if a < b then -1 else if b < a then 1 else 0
theorem digs_shorter {B : Nat} (hB : 2 ≤ B) (a b : Nat) (h : (digs B a).length < (digs B b).length) : a < b := by
  have h1 := (digs_len hB a (digs B a).length).1 (Nat.le_refl _)
  have h2 := mt (digs_len hB b (digs B a).length).2 (by omega)
  omega
/-- From k on the two are alike. -/
theorem cmp_high {B : Nat} (L M : List Nat) (hL : ∀ d ∈ L, d < B) (i : Nat) (hi : i < L.length) (hj : i < M.length) (he : L.drop (i + 1) = M.drop (i + 1)) (hlt : L[i] < M[i]) : dval B L < dval B M := by
  have e1 : dval B L = dval B (L.take i) + B ^ i * (L[i] + B * dval B (L.drop (i + 1))) := by
    conv => lhs; rw [← List.take_append_drop i L, dval_append, List.length_take, Nat.min_eq_left (by omega), List.drop_eq_getElem_cons hi]
    rfl
  have e2 : dval B M = dval B (M.take i) + B ^ i * (M[i] + B * dval B (M.drop (i + 1))) := by
    conv => lhs; rw [← List.take_append_drop i M, dval_append, List.length_take, Nat.min_eq_left (by omega), List.drop_eq_getElem_cons hj]
    rfl
  have h1 := dval_lt B (L.take i) fun d hd => hL d (List.mem_of_mem_take hd)
  rw [List.length_take, Nat.min_eq_left (by omega)] at h1
  rw [e1, e2, he]
  generalize dval B (M.drop (i + 1)) = t
  have h3 : B ^ i * (L[i] + B * t + 1) ≤ B ^ i * (M[i] + B * t) := Nat.mul_le_mul_left _ (by omega)
  rw [Nat.mul_add, Nat.mul_one] at h3
  omega
theorem RowAt.cut {w : World} {ao : Option Addr} {cap : Nat} {L : List Nat} (hL : ∀ d ∈ L, d < 4294967296) (h : RowAt w .u32 ao cap L) : RowAt w .u32 ao cap (digs 4294967296 (dval 4294967296 L)) := by
  have hle := digs_le (B := 4294967296) (by omega) L hL
  have ht := take_digs (B := 4294967296) (by omega) L hL
  generalize digs 4294967296 (dval 4294967296 L) = D at *
  refine ⟨Nat.le_trans hle h.le, h.max, fun e => ?_, fun i hi => ?_⟩
  · obtain ⟨h1, h2⟩ := h.nil e
    subst h1
    exact ⟨by rw [← ht]; simp, h2⟩
  · obtain ⟨b, e, hb, hc⟩ := h.cell i (by omega)
    refine ⟨b, e, hb, ?_⟩
    rw [hc]
    have : D[i] = L[i]'(by omega) := by
      have : D[i] = (L.take D.length)[i]'(by rw [ht]; exact hi) := by congr 1; exact ht.symm
      rw [this, List.getElem_take]
    rw [this]

set_option maxRecDepth 20000 in
theorem cmp_any (aa ab : Option Addr) (ca cb : Nat) (A B : List Nat) (hA : ∀ d ∈ A, d < 4294967296) (hB : ∀ d ∈ B, d < 4294967296) (w : World) (rA : RowAt w .u32 aa ca A) (rB : RowAt w .u32 ab cb B) :
    Calls Try.prog 75 #[.slice aa A.length ca, .slice ab B.length cb] w fun e w' => e = .returned (.int .i64 (cmpN (dval 4294967296 A) (dval 4294967296 B))) ∧ Below w.heap.size w w' := by
  have HA := Lib.hid (cut_any aa ca A hA w rA)
  have HB := Lib.hid (cut_any ab cb B hB w rB)
  have RA := Lib.hid (rA.cut hA)
  have RB := Lib.hid (rB.cut hB)
  have lA := digs_lt (B := 4294967296) (by omega) (dval 4294967296 A)
  have lB := digs_lt (B := 4294967296) (by omega) (dval 4294967296 B)
  have vA := dval_digs (B := 4294967296) (by omega) (dval 4294967296 A)
  have vB := dval_digs (B := 4294967296) (by omega) (dval 4294967296 B)
  have s1 := digs_shorter (B := 4294967296) (by omega) (dval 4294967296 A) (dval 4294967296 B)
  have s2 := digs_shorter (B := 4294967296) (by omega) (dval 4294967296 B) (dval 4294967296 A)
  have ma := rA.max
  have mb := rB.max
  have c1 := RA.out.le
  have c2 := RB.out.le
  unfold maxLen at ma mb
  clear hA hB rA rB
  generalize digs 4294967296 (dval 4294967296 A) = D at *
  generalize digs 4294967296 (dval 4294967296 B) = E at *
  generalize dval 4294967296 A = x at *
  generalize dval 4294967296 B = y at *
  by_cases hne : D.length = E.length
  · have LA := Lib.hid lA
    have LB := Lib.hid lB
    have VA := Lib.hid vA
    have VB := Lib.hid vB
    clear s1 s2 lA lB vA vB
    go_enter Try.func75, Try.ntmps75
    go_wp2_with (first | (go_at_call 83; with_reducible refine HA.out.mono ?_; rintro e w' ⟨rfl, rfl⟩) | (go_at_call 83; with_reducible refine HB.out.mono ?_; rintro e w' ⟨rfl, rfl⟩))
    go_loopw [5] (fun v wr => ∃ k, k ≤ D.length ∧ v = .int .i64 ((k : Nat) - 1 : Int) ∧ D.drop k = E.drop k ∧ Below w.heap.size w wr) (fun v _ => (intOf v + 1).toNat)
    case atStart => exact ⟨E.length, by omega, rfl, by rw [List.drop_of_length_le (by omega), List.drop_of_length_le (by omega)], Below.refl _ _⟩
    case round =>
      obtain ⟨k, hk, rfl, he, hbw⟩ := hrel
      have HBW := Lib.hid hbw
      clear hbw
      rcases k with _ | i
      · have hR : Hid (cmpN x y = 0) := by
          show _ = _
          rw [List.drop_zero, List.drop_zero] at he
          have : x = y := by rw [← VA.out, ← VB.out, he]
          unfold cmpN
          rw [if_neg (by omega), if_neg (by omega)]
        clear he
        go_wp2
        go_ret
        exact ⟨by rw [hR.out]; rfl, HBW.out⟩
      · have hi : i < D.length := hk
        have hj : i < E.length := by omega
        have hi1 : ((i + 1 : Nat) : Int) - 1 = (i : Int) := by omega
        obtain ⟨ba, rfl, hba, hca⟩ := (RA.out.below HBW.out (Nat.le_refl _)).cell i hi
        obtain ⟨bb, rfl, hbb, hcb⟩ := (RB.out.below HBW.out (Nat.le_refl _)).cell i hj
        have HLT := Lib.hid (cmp_high D E LA.out i hi hj he)
        have HGT := Lib.hid (cmp_high E D LB.out i hj hi he.symm)
        have HEQ := Lib.hid (fun (h : D[i] = E[i]) => (by rw [List.drop_eq_getElem_cons hi, List.drop_eq_getElem_cons hj, he, h] : D.drop i = E.drop i))
        rw [VA.out, VB.out] at HLT
        rw [VA.out, VB.out] at HGT
        generalize D[i] = p at hca HLT HGT HEQ
        generalize E[i] = q at hcb HLT HGT HEQ
        rw [hi1]
        clear he hi1
        by_cases hpq : p = q
        · have hd := Lib.hid (HEQ.out hpq)
          subst hpq
          go_wp2
          go_region
          go_wp2
          go_roundw
          case rel => exact ⟨i, by omega, rfl, hd.out, HBW.out.drew⟩
          case measure => simp [intOf]
        · have hne1 : ((p : Int) != q) = true := by simp; omega
          by_cases hpl : p < q
          · have hR : Hid (cmpN x y = -1) := by
              show _ = _
              unfold cmpN
              rw [if_pos (HLT.out hpl)]
            go_wp2
            go_region
            go_wp2
            go_region
            go_wp2
            go_ret
            exact ⟨by rw [hR.out]; rfl, HBW.out.drew.drew⟩
          · have hR : Hid (cmpN x y = 1) := by
              show _ = _
              have := HGT.out (by omega)
              unfold cmpN
              rw [if_neg (by omega), if_pos this]
            go_wp2
            go_region
            go_wp2
            go_region
            go_wp2
            go_ret
            exact ⟨by rw [hR.out]; rfl, HBW.out.drew.drew⟩
  · by_cases hlt : D.length < E.length
    · have hR : Hid (cmpN x y = -1) := by
        show _ = _
        unfold cmpN
        rw [if_pos (s1 hlt)]
      clear s1 s2 lA lB vA vB
      go_enter Try.func75, Try.ntmps75
      go_wp2_with (first | (go_at_call 83; with_reducible refine HA.out.mono ?_; rintro e w' ⟨rfl, rfl⟩) | (go_at_call 83; with_reducible refine HB.out.mono ?_; rintro e w' ⟨rfl, rfl⟩))
      go_ret
      exact ⟨by rw [hR.out]; rfl, Below.refl _ _⟩
    · have hR : Hid (cmpN x y = 1) := by
        show _ = _
        have := s2 (by omega)
        unfold cmpN
        rw [if_neg (by omega), if_pos this]
      clear s1 s2 lA lB vA vB
      go_enter Try.func75, Try.ntmps75
      go_wp2_with (first | (go_at_call 83; with_reducible refine HA.out.mono ?_; rintro e w' ⟨rfl, rfl⟩) | (go_at_call 83; with_reducible refine HB.out.mono ?_; rintro e w' ⟨rfl, rfl⟩))
      go_ret
      exact ⟨by rw [hR.out]; rfl, Below.refl _ _⟩
end Go.Proofs.Ytfhkpkebiinglaa
