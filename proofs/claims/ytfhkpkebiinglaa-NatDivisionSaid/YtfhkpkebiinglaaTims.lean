/-
  The walk of the reference's times.
-/
import Derived.Test.YtfhkpkebiinglaaPlus
namespace Go.Proofs.Ytfhkpkebiinglaa
open Go.RowKit

theorem MulIn.leave0 {β : Nat} {A B : List Nat} {i : Nat} {O : List Nat} (hi : i < A.length) (h : MulIn β A B i A[i] B.length 0 O) : MulOut β A B (i + 1) O := by
  have h1 := MulIn.leave hi h
  have h2 := h.zero (i + B.length) (Nat.le_refl _)
  have e : O.set (i + B.length) 0 = O := by
    by_cases hj : i + B.length < O.length
    · rw [getD_lt hj] at h2
      rw [← h2]; exact List.set_getElem_self hj
    · rw [List.set_eq_of_length_le (by omega)]
  rwa [e] at h1
theorem dval_snoc0 (O : List Nat) : dval 256 (O ++ [0]) = dval 256 O := by rw [dval_snoc]; simp
theorem set_snoc (O : List Nat) (j d z : Nat) (h : j < O.length) : (O ++ [z]).set j d = O.set j d ++ [z] := by rw [List.set_append_left _ _ h]

set_option maxRecDepth 20000 in
set_option maxHeartbeats 800000 in
theorem times_any (a b : ByteArray) (ha : a.size ≤ 200000) (hb : b.size ≤ 200000) (w : World) :
    Calls Try.prog 64 #[.string a, .string b] w fun e w' => e = .returned (.string (enc (bval a * bval b))) ∧ Below w.heap.size w w' := by
  have HA := Lib.hid fun W => digits_any a (by omega) W
  have HB := Lib.hid fun W => digits_any b (by omega) W
  have HXL := Lib.hid (bytesR_lt a)
  have HYL := Lib.hid (bytesR_lt b)
  have hX : (bytesR a).length = a.size := bytesR_len a
  have hY : (bytesR b).length = b.size := bytesR_len b
  have HV : Hid (bval a * bval b = dval 256 (bytesR a) * dval 256 (bytesR b)) := rfl
  rw [HV.out]
  have HX := Lib.hid hX
  have HY := Lib.hid hY
  clear hX hY HV
  generalize bytesR a = X at *
  generalize bytesR b = Y at *
  generalize a.size = n at *
  generalize b.size = m at *
  go_enter Try.func64, Try.ntmps64
  go_wp2_with (first | (go_at_call 71; with_reducible refine (HA.out _).mono ?_; rintro e w2 ⟨aa, na, ca, rfl, EA, RA, B2⟩; obtain rfl : n = na := by rw [← HX.out, EA.out]) | (go_at_call 71; with_reducible refine (HB.out _).mono ?_; rintro e w3 ⟨ab, nb, cb, rfl, EB, RB, B3⟩; obtain rfl : m = nb := by rw [← HY.out, EB.out]) | (at_make; refine wpList_make_ap rfl _ _ 84 rfl Try.underlying84 info3 (by omega) w3 (Below.refl _ _) (n + m + 1) (n + m + 1) _ _ .i64 .i64 rfl rfl (by go_num) (by go_num) (by omega) (by omega) ?_; intro w7 hap7 hs7 hb7))
  have RA3 := Lib.hid (HRow RA.out B3)
  have HBL := Lib.hid (B2.on B3)
  have HO : Hid (Own w3 3 .i64 w3.heap.size (List.replicate (X.length + Y.length) 0 ++ [0]) w7) := by
    have e : List.replicate (X.length + Y.length) 0 ++ [0] = List.replicate (n + m + 1) 0 := by
      rw [HX.out, HY.out, ← List.replicate_succ']
    show Own _ _ _ _ _ _
    rw [e]
    exact Own.of_ap hap7 (by simp)
  clear B2 B3 RA EA EB hap7 hs7 hb7
  go_loopw [8] (fun vi wr => ∃ i O, i ≤ n ∧ vi = .int .i64 ((i : Nat) : Int) ∧ Hid (MulOut 256 X Y i O) ∧ Hid (Own w3 3 .i64 w3.heap.size (O ++ [0]) wr)) (fun vi _ => n - (intOf vi).toNat)
  case atStart => exact ⟨0, _, Nat.zero_le _, rfl, MulOut.start 256 (by omega) X Y, HO⟩
  case round =>
    obtain ⟨i, O, hi, rfl, HM, HW⟩ := hrel
    clear HO
    by_cases hlt : i < n
    · have hxl : i < X.length := by rw [HX.out]; exact hlt
      have hx : X[i] < 256 := HXL.out _ (List.getElem_mem hxl)
      have HE := Lib.hid (HM.out.enter (by omega) X[i])
      have HQ := Lib.hid (fun c O => @MulIn.leave 256 X Y i c O hxl)
      have HQ0 := Lib.hid (fun O => @MulIn.leave0 256 X Y i O hxl)
      obtain ⟨ba, rfl, hba, _⟩ := RA3.out.cell i hxl
      have HCX : Hid (∀ W, Below w3.heap.size w3 W → W.cell? ⟨ba, i, none⟩ = some (.int .i64 ((X[i] : Nat) : Int))) := fun W hW => by
        obtain ⟨b, e, _, h⟩ := RA3.out.get hW i hxl
        cases e; exact h
      generalize X[i] = x at *
      clear hxl
      go_wp2
      obtain ⟨wo, rfl⟩ : ∃ wo : World, wo = wr := ⟨_, rfl⟩
      go_loopw [9, 10] (fun vc vk wi => ∃ k c O, vk = .int .i64 ((k : Nat) : Int) ∧ vc = .int .i64 ((c : Nat) : Int) ∧ c < 256 ∧ (Hid (k ≤ m ∧ MulIn 256 X Y i x k c O) ∨ Hid (k = m + 1 ∧ c = 0 ∧ MulOut 256 X Y (i + 1) O)) ∧ Hid (Own w3 3 .i64 w3.heap.size (O ++ [0]) wi)) (fun _ vk _ => m + 2 - (intOf vk).toNat)
      case atStart => exact ⟨0, 0, _, rfl, rfl, by omega, .inl ⟨Nat.zero_le _, HE.out⟩, HW⟩
      case round =>
        obtain ⟨k, c, O', rfl, rfl, hc, hin, HV⟩ := hrel
        by_cases hkm : k < m ∨ (¬ k < m ∧ 0 < c)
        · have HIN : Hid (k ≤ m ∧ MulIn 256 X Y i x k c O') := by
            rcases hin with h | h
            · exact h
            · have := h.out; omega
          have hkle := HIN.out.1
          have hjl : i + k < O'.length := by rw [HIN.out.2.len, HX.out, HY.out]; omega
          have hjl2 : i + k < (O' ++ [0]).length := by rw [List.length_append]; omega
          have hcell := HV.out.cell (i + k) hjl2
          have hfz := HV.out.frozen (i + k)
          rw [List.getElem_append_left hjl] at hcell
          have ho : O'[i + k] < 256 := HIN.out.2.lt _ (List.getElem_mem _)
          have hy := getD_small HYL.out (show 0 < 256 by omega) k
          have HBT := Lib.hid fun W r => rat_any ab m cb Y HY.out k W r
          have HSTO := Lib.hid fun d => HV.out.store (i + k) d
          have HNEXT : Hid (((k < m) ∧ (k + 1 ≤ m ∧ MulIn 256 X Y i x (k + 1) ((c + (x * Y.getD k 0 + O'[i + k])) / 256) (O'.set (i + k) ((c + (x * Y.getD k 0 + O'[i + k])) % 256)))) ∨ (k + 1 = m + 1 ∧ (c + (x * Y.getD k 0 + O'[i + k])) / 256 = 0 ∧ MulOut 256 X Y (i + 1) (O'.set (i + k) ((c + (x * Y.getD k 0 + O'[i + k])) % 256)))) := by
            by_cases hk : k < m
            · have hky : k < Y.length := by rw [HY.out]; exact hk
              have := HIN.out.2.step HYL.out hx hky (by rw [HX.out]; exact hlt)
              rw [getD_lt hjl, ← getD_lt hky] at this
              exact .inl ⟨hk, hk, this⟩
            · have hke : k = Y.length := by rw [HY.out]; omega
              have h0 : Y.getD k 0 = 0 := by simp [List.getD, show Y.length ≤ k by omega]
              have h2 := HIN.out.2.zero (i + k) (by omega)
              rw [getD_lt hjl] at h2
              have hs : c + (x * Y.getD k 0 + O'[i + k]) = c := by rw [h0, h2]; simp
              rw [hs, Nat.mod_eq_of_lt hc, Nat.div_eq_of_lt hc]
              have hl := HQ.out c O'
              have hin2 := HIN.out.2
              rw [hke] at hin2
              have hl2 := hl hin2
              rw [← hke] at hl2
              exact .inr ⟨by have := HY.out; omega, rfl, hl2⟩
          have HSN := Lib.hid fun d => set_snoc O' (i + k) d 0 hjl
          have hp : x * Y.getD k 0 ≤ 255 * 255 := Nat.mul_le_mul (by omega) (by omega)
          have hcx := HCX.out wr HV.out.below
          have RY := HRow RB.out HV.out.below
          generalize O'[i + k] = o at *
          generalize Y.getD k 0 = y at *
          have hp2 : (x : Int) * (y : Int) = ((x * y : Nat) : Int) := by rw [Int.natCast_mul]
          have HP2 := Lib.hid hp2
          have HJL := Lib.hid hjl
          have hjz : (i : Int) + k < ((n + m + 1 : Nat) : Int) := by omega
          have hjz0 : (0 : Int) ≤ (i : Int) + k := by omega
          have hjz1 : (i : Int) + k < (n : Int) + m + 1 := by omega
          have hjz2 : ((i : Int) + (k : Int)).toNat = i + k := by omega
          have hiz0 : (0 : Int) ≤ (i : Int) := by omega
          have hiz1 : (i : Int) < (n : Int) := by omega
          have hba2 : ba < wr.heap.size := Nat.lt_of_lt_of_le hba HV.out.below.size
          clear hp2 hjl hjl2 hin
          rcases hkm with hk | ⟨hk, hc0⟩
          all_goals
            go_wp2
            have hwi : IntKind.i64.wrap ((i : Int) + (k : Int)) = (i : Int) + (k : Int) := by rw [IntKind.wrap_i64]; omega
            have hw1 : IntKind.i64.wrap ((c : Int) + (o : Int)) = (c : Int) + (o : Int) := by rw [IntKind.wrap_i64]; omega
            have hw2 : IntKind.i64.wrap ((x : Int) * (y : Int)) = (x : Int) * (y : Int) := by rw [HP2.out, IntKind.wrap_i64]; omega
            have hw3 : IntKind.i64.wrap ((c : Int) + (o : Int) + (x : Int) * (y : Int)) = (c : Int) + (o : Int) + (x : Int) * (y : Int) := by rw [HP2.out, IntKind.wrap_i64]; omega
            go_region_held3 (fun W => RowAt W .i64 ab cb Y ∧ W.cell? ⟨ba, i, none⟩ = some (.int .i64 (x : Int)) ∧ W.cell? ⟨w3.heap.size, i + k, none⟩ = some (.int .i64 (o : Int))) (exact ⟨by first | assumption | exact RowAt.drew (by assumption), by assumption, by assumption⟩) (first | (go_at_call 72; refine (HBT.out _ (by first | assumption | exact RowAt.drew (by assumption))).mono ?_; rintro e w' ⟨rfl, rfl⟩))
            clear hw1 hw2 hw3 hwi
            have ht : (c : Int) + (o : Int) + (x : Int) * (y : Int) = ((c + (x * y + o) : Nat) : Int) := by rw [HP2.out]; omega
            have htl : c + (x * y + o) < 65536 := by omega
            generalize c + (x * y + o) = t at *
            clear hp
            have HTT := Lib.hid ht
            have hnn : (0 : Int) ≤ (c : Int) + (o : Int) + (x : Int) * (y : Int) := by rw [ht]; omega
            have hub : (c : Int) + (o : Int) + (x : Int) * (y : Int) ≤ 65536 := by rw [ht]; omega
            clear ht
            go_wp2
            go_roundw
            case rel => exact ⟨k + 1, t / 256, O'.set (i + k) (t % 256), by go_num, by rw [HTT.out]; rfl, by omega, by rcases HNEXT.out with ⟨_, h⟩ | h; exact .inl h; exact .inr h, by show Own _ _ _ _ _ _; rw [HTT.out, ← HSN.out]; have h := HSTO.out (t % 256); exact ⟨h.own, h.below.drew⟩⟩
            case measure => simp [intOf]; omega
        · have h1 : ¬ k < m := by omega
          have h2 : c = 0 := by omega
          subst h2
          have HN : Hid (MulOut 256 X Y (i + 1) O') := by
            rcases hin with h | h
            · have e : k = Y.length := by rw [HY.out]; have := h.out.1; omega
              have h3 := h.out.2
              rw [e] at h3
              exact HQ0.out O' h3
            · exact h.out.2.2
          clear hin hkm
          go_wp2
          go_roundw
          case rel => exact ⟨i + 1, O', by omega, by go_num, HN, HV⟩
          case measure => simp [intOf]; omega
    · have hie : i = n := by omega
      subst hie
      have hlen : (O ++ [0]).length = i + m + 1 := by rw [List.length_append, HM.out.len, HX.out, HY.out]; rfl
      have hv : dval 256 (O ++ [0]) = dval 256 X * dval 256 Y := by
        rw [dval_snoc0, HM.out.val, ← HX.out, List.take_length]
      have HMD := Lib.hid (made_any (some ⟨w3.heap.size, 0, none⟩) (i + m + 1) (O ++ [0]).length (O ++ [0]) hlen (snoc_lt HM.out.lt (by omega)) (by omega) wr HW.out.row)
      rw [hv, hlen] at HMD
      clear hlen hv
      go_wp2_with (go_at_call 67; refine HMD.out.mono ?_; rintro e w5 ⟨rfl, B5⟩)
      go_ret
      exact ⟨rfl, (HBL.out.on HW.out.below).on B5⟩
end Go.Proofs.Ytfhkpkebiinglaa
