/-
  The reference's Add and Sub.
-/
import Derived.Test.YtfhkpkebiinglaaRtx
namespace Go.Proofs.Ytfhkpkebiinglaa
open Go.RowKit

theorem sum_digs {a b : ByteArray} (ha : a.size ≤ 200000) (hb : b.size ≤ 200000) : (digs 256 (bval a + bval b)).length ≤ 1000000 := by
  obtain ⟨k, hk⟩ : ∃ k, k = max a.size b.size := ⟨_, rfl⟩
  have h1 := bval_lt a
  have h2 := bval_lt b
  have h3 : 256 ^ a.size ≤ 256 ^ k := Nat.pow_le_pow_right (by omega) (by omega)
  have h4 : 256 ^ b.size ≤ 256 ^ k := Nat.pow_le_pow_right (by omega) (by omega)
  have h5 : (256 : Nat) ^ (k + 1) = 256 ^ k * 256 := Nat.pow_succ ..
  have h6 := (digs_len (B := 256) (by omega) (bval a + bval b) (k + 1)).2 (by omega)
  omega
set_option maxRecDepth 20000 in
theorem rAdd_any (a b : ByteArray) (ha : a.size ≤ 200000) (hb : b.size ≤ 200000) (w : World) :
    Calls Try.prog 35 #[.string a, .string b] w fun e w' => e = .returned (endN (bval a + bval b)) ∧ Below w.heap.size w w' := by
  have HT := Lib.hid fun W => plus_any a b ha hb W
  have HE := Lib.hid fun W => ended_enc (bval a + bval b) (sum_digs ha hb) W
  generalize bval a + bval b = N at *
  clear ha hb
  go_enter Try.func35, Try.ntmps35
  go_wp2_with (first | (go_at_call 66; refine (HT.out _).mono ?_; rintro e w1 ⟨rfl, B1⟩) | (go_at_call 63; refine (HE.out _).mono ?_; rintro e w2 ⟨rfl, rfl⟩; unfold endN))
  go_ret2
  exact ⟨rfl, B1⟩
/-- A difference so far, appended. -/
structure SubUp (A B : List Nat) (i c : Nat) (O : List Nat) : Prop where
  len : O.length = i
  lt : ∀ d ∈ O, d < 256
  borrow : c ≤ 1
  val : dval 256 (A.take i) + c * 256 ^ i = dval 256 O + dval 256 (B.take i)
theorem SubUp.start (A B : List Nat) : SubUp A B 0 0 [] := ⟨rfl, (fun d h => by cases h), by omega, by simp [dval]⟩
theorem SubUp.step {A B : List Nat} {i c : Nat} {O : List Nat} (h : SubUp A B i c O) (hi : i < A.length) (d c' : Nat) (hd : d < 256) (hc' : c' ≤ 1)
    (e : A[i] + c' * 256 = d + B.getD i 0 + c) : SubUp A B (i + 1) c' (O ++ [d]) := by
  refine ⟨by rw [List.length_append, h.len]; rfl, snoc_lt h.lt hd, hc', ?_⟩
  rw [dval_snoc, h.len, dval_take_at 256 B, dval_take_succ 256 A i hi]
  have hv := h.val
  generalize A[i] = a at *
  generalize B.getD i 0 = b at *
  have e1 : c' * 256 ^ (i + 1) = 256 ^ i * (c' * 256) := by rw [Nat.pow_succ, Nat.mul_left_comm]
  have e2 : 256 ^ i * (a + c' * 256) = 256 ^ i * (d + b + c) := by rw [e]
  rw [Nat.mul_add, Nat.mul_add, Nat.mul_add, Nat.mul_comm (256 ^ i) c] at e2
  rw [e1]
  omega
theorem SubUp.leave {A B : List Nat} {c : Nat} {O : List Nat} (h : SubUp A B A.length c O) (hA : ∀ d ∈ A, d < 256) (hB : ∀ d ∈ B, d < 256) (hle : dval 256 B ≤ dval 256 A) :
    dval 256 O = dval 256 A - dval 256 B := by
  have hv := h.val
  rw [List.take_of_length_le (Nat.le_refl _)] at hv
  have hb : dval 256 (B.take A.length) = dval 256 B := by
    rw [dval_take B hB, Nat.mod_eq_of_lt (Nat.lt_of_le_of_lt hle (dval_lt 256 A hA))]
  rw [hb] at hv
  have ho := dval_lt 256 O h.lt
  rw [h.len] at ho
  have hc := h.borrow
  rcases Nat.eq_zero_or_pos c with h0 | h0
  · subst h0; omega
  · have : c = 1 := by omega
    subst this; omega
set_option maxRecDepth 20000 in
set_option maxHeartbeats 1000000 in
theorem rSub_any (a b : ByteArray) (ha : Ok a) (hb : Ok b) (w : World) :
    Calls Try.prog 36 #[.string a, .string b] w fun e w' => e = .returned (subN (bval a) (bval b)) ∧ Below w.heap.size w w' := by
  have HC := Lib.hid fun W => rCmp_any a b ha hb W
  have ha1 := ha.1
  have hb1 := hb.1
  by_cases hlt : bval a < bval b
  · have hR : Hid (subN (bval a) (bval b) = .tuple #[.string ⟨#[]⟩, .int .i64 20]) := by show _ = _; unfold subN; rw [if_pos hlt]
    rw [cmpN_lt hlt] at HC
    clear ha hb hlt
    go_enter Try.func36, Try.ntmps36
    go_wp2_with (go_at_call 31; refine (HC.out _).mono ?_; rintro e w1 ⟨rfl, B1⟩)
    go_ret2
    exact ⟨by rw [hR.out]; rfl, B1⟩
  · have hR : Hid (subN (bval a) (bval b) = .tuple #[.string (enc (bval a - bval b)), .int .i64 0]) := by
      show _ = _
      unfold subN
      rw [if_neg hlt, (Sm.of_ok ha |>.le (Nat.sub_le _ _)).endN]
    have hcm := cmpN_ge (a := bval a) (b := bval b) (by omega)
    have HLE : Hid (dval 256 (bytesR b) ≤ dval 256 (bytesR a)) := by show bval b ≤ bval a; omega
    have HVV : Hid (bval a - bval b = dval 256 (bytesR a) - dval 256 (bytesR b)) := rfl
    have HA := Lib.hid fun W => digits_any a (by omega) W
    have HB := Lib.hid fun W => digits_any b (by omega) W
    have HXL := Lib.hid (bytesR_lt a)
    have HYL := Lib.hid (bytesR_lt b)
    have HX := Lib.hid (bytesR_len a)
    have HY := Lib.hid (bytesR_len b)
    rw [hR.out, HVV.out]
    generalize cmpN (bval a) (bval b) = cm at *
    clear ha hb hlt HVV hR
    generalize bytesR a = X at *
    generalize bytesR b = Y at *
    generalize a.size = n at *
    generalize b.size = m at *
    go_enter Try.func36, Try.ntmps36
    go_wp2_with (first | (go_at_call 31; refine (HC.out _).mono ?_; rintro e w1 ⟨rfl, B1⟩) | (go_at_call 71; with_reducible refine (HA.out _).mono ?_; rintro e w2 ⟨aa, na, ca, rfl, EA, RA, B2⟩; obtain rfl : n = na := by rw [← HX.out, EA.out]) | (go_at_call 71; with_reducible refine (HB.out _).mono ?_; rintro e w3 ⟨ab, nb, cb, rfl, EB, RB, B3⟩; obtain rfl : m = nb := by rw [← HY.out, EB.out]))
    have RA3 := Lib.hid (HRow RA.out B3)
    have HBL := Lib.hid ((B1.on B2).on B3)
    clear B1 B2 B3 RA EA EB hcm
    go_loopw [8, 9, 10] (fun vo vc vi wr => ∃ (i c : Nat) (O : List Nat), vi = .int .i64 (i : Int) ∧ vc = .int .i64 (c : Int) ∧ c ≤ 1 ∧ i ≤ n ∧ Hid (SubUp X Y i c O) ∧ Hid (Ap w3 3 .i64 vo O wr)) (fun _ _ vi _ => n - (intOf vi).toNat)
    case atStart => exact ⟨0, 0, [], rfl, rfl, by omega, Nat.zero_le _, SubUp.start X Y, Ap.nil _ _ _⟩
    case round =>
      obtain ⟨i, c, O, rfl, rfl, hc, hi, HS, HW⟩ := hrel
      by_cases hlt : i < n
      · have hxl : i < X.length := by rw [HX.out]; exact hlt
        have hx : X[i] < 256 := HXL.out _ (List.getElem_mem hxl)
        have hy := getD_small HYL.out (show 0 < 256 by omega) i
        obtain ⟨ba, rfl, hba, hcx⟩ := RA3.out.get HW.out.below i hxl
        have RY := HRow RB.out HW.out.below
        have HBT := Lib.hid fun W r => rat_any ab m cb Y HY.out i W r
        have HNX := Lib.hid fun d c' h1 h2 h3 => HS.out.step hxl d c' h1 h2 h3
        have HLN : Hid (O.length ≤ 10000000) := by show _ ≤ _; rw [HS.out.len]; omega
        generalize X[i] = x at *
        generalize Y.getD i 0 = y at *
        clear hxl hi
        go_wp2
        have hw1 : IntKind.i64.wrap ((x : Int) - (y : Int)) = (x : Int) - (y : Int) := by rw [IntKind.wrap_i64]; omega
        have hw2 : IntKind.i64.wrap ((x : Int) - (y : Int) - (c : Int)) = (x : Int) - (y : Int) - (c : Int) := by rw [IntKind.wrap_i64]; omega
        go_region_held3 (fun W => RowAt W .i64 ab cb Y ∧ W.cell? ⟨ba, i, none⟩ = some (.int .i64 (x : Int))) (exact ⟨by first | assumption | exact RowAt.drew (by assumption), by assumption⟩) (first | (go_at_call 72; refine (HBT.out _ (by first | assumption | exact RowAt.drew (by assumption))).mono ?_; rintro e w' ⟨rfl, rfl⟩))
        clear hw1 hw2
        by_cases hneg : x < y + c
        · have hnz : (x : Int) - (y : Int) - (c : Int) < 0 := by omega
          have HN2 := Lib.hid (HNX.out (x + 256 - y - c) 1 (by omega) (by omega) (by omega))
          clear hneg
          go_wp2_with (first | (at_builtin; refine wpList_append_one rfl _ _ 84 rfl Try.underlying84 info3 rfl (by omega) w3 (Ap.drew HW.out) (x + 256 - y - c) _ rfl rfl (by omega) HLN.out ?_; intro v1 w2 hap1))
          go_roundw
          case rel => exact ⟨i + 1, 1, _, by go_num, rfl, by omega, by omega, HN2, hap1⟩
          case measure => simp [intOf]; omega
        · have hnz : ¬ (x : Int) - (y : Int) - (c : Int) < 0 := by omega
          have HN2 := Lib.hid (HNX.out (x - y - c) 0 (by omega) (by omega) (by omega))
          clear hneg
          go_wp2_with (first | (at_builtin; refine wpList_append_one rfl _ _ 84 rfl Try.underlying84 info3 rfl (by omega) w3 (Ap.drew HW.out) (x - y - c) _ rfl rfl (by omega) HLN.out ?_; intro v1 w2 hap1))
          go_roundw
          case rel => exact ⟨i + 1, 0, _, by go_num, rfl, by omega, by omega, HN2, hap1⟩
          case measure => simp [intOf]; omega
      · have hie : i = n := by omega
        subst hie
        have hs := HS.out
        rw [← HX.out] at hs
        have HV := Lib.hid (hs.leave HXL.out HYL.out HLE.out)
        obtain ⟨ao, co, hv, hr⟩ := own_slice HW.out.own
        subst hv
        have hol : O.length ≤ 1000000 := by rw [HS.out.len]; omega
        have hmx := hr.max
        have hle := hr.le
        unfold maxLen at hmx
        have HMD := Lib.hid (made_any ao O.length co O rfl HS.out.lt hol wr hr)
        rw [HV.out] at HMD
        clear hr hs
        go_wp2_with (go_at_call 67; refine HMD.out.mono ?_; rintro e w5 ⟨rfl, B5⟩)
        go_ret2
        exact ⟨rfl, (HBL.out.on HW.out.below).on B5⟩

set_option maxRecDepth 20000 in
theorem rSum_any (ao : Option Addr) (n cap : Nat) (S : List ByteArray) (hn : S.length = n) (hl : n ≤ 17592186044416) (w : World) (hS : ∀ s ∈ S, Ok s) (h : VRow w ao cap (S.map .string)) :
    Calls Try.prog 37 #[.slice ao n cap] w fun e w' => e = .returned (endN (sumv S)) ∧ Below w.heap.size w w' := by
  subst hn
  have hm := h.max
  have hle := h.le
  rw [List.length_map] at hle
  unfold maxLen at hm
  have HC : Hid (∀ i (hi : i < S.length) W, Below w.heap.size w W → ∃ b, ao = some ⟨b, 0, none⟩ ∧ b < w.heap.size ∧ W.cell? ⟨b, i, none⟩ = some (.string S[i])) := fun i hi W hW => by
    obtain ⟨b, e, hb, hc⟩ := h.cell i (by rw [List.length_map]; exact hi)
    refine ⟨b, e, hb, ?_⟩
    rw [hW.cell (p := ⟨b, i, none⟩) hb, hc]
    simp
  have HOK := Lib.hid hS
  have HEN := Lib.hid fun W => ended_enc (sumv S) (by have := (sumv_digs S hS hl).2; omega) W
  clear h hS
  have h00 : Hid ((⟨#[]⟩ : ByteArray) = enc (sumv (S.take 0))) := by show _ = _; rw [List.take_zero]; exact enc_zero.symm
  go_enter Try.func37, Try.ntmps37
  go_wp2
  go_loopw [4, 5] (fun vs vi wr => ∃ i, i ≤ S.length ∧ vi = .int .i64 ((i : Nat) : Int) ∧ vs = .string (enc (sumv (S.take i))) ∧ Hid (Below w.heap.size w wr)) (fun _ vi _ => S.length - (intOf vi).toNat)
  case atStart => exact ⟨0, Nat.zero_le _, rfl, by rw [← h00.out], Below.refl _ _⟩
  case round =>
    obtain ⟨i, hi, rfl, rfl, HBW⟩ := hrel
    clear h00
    by_cases hlt : i < S.length
    · obtain ⟨b, rfl, hb, hc⟩ := HC.out i hlt wr HBW.out
      have hoks := HOK.out _ (List.getElem_mem hlt)
      have HT := Lib.hid (sumv_take S i hlt)
      have hd := (sumv_digs (S.take i) (fun s hs => HOK.out s (List.mem_of_mem_take hs)) (by rw [List.length_take]; omega)).2
      have HP := Lib.hid fun W => plus_any (enc (sumv (S.take i))) S[i] (by rw [enc_size]; omega) (by have := hoks.1; omega) W
      rw [bval_enc] at HP
      generalize S[i] = s at *
      have hb2 : b < wr.heap.size := Nat.lt_of_lt_of_le hb HBW.out.size
      clear hoks hd
      go_wp2_with (first | (go_at_call 66; with_reducible refine (HP.out _).mono ?_; rintro e w2 ⟨rfl, B2⟩))
      go_roundw
      case rel => exact ⟨i + 1, by omega, by go_num, by rw [HT.out], HBW.out.on B2⟩
      case measure => simp [intOf]; omega
    · have hie : i = S.length := by omega
      subst hie
      have e : S.take S.length = S := List.take_length
      rw [e]
      clear e
      go_wp2_with (go_at_call 63; refine (HEN.out _).mono ?_; rintro e w5 ⟨rfl, rfl⟩; unfold endN)
      go_ret2
      exact ⟨rfl, HBW.out⟩
end Go.Proofs.Ytfhkpkebiinglaa
