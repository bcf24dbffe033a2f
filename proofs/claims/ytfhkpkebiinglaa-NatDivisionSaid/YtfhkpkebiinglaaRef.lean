/-
  The walks of the reference's small parts: digits, made, ended, at.
-/
import Derived.Test.YtfhkpkebiinglaaAwake
namespace Go.Proofs.Ytfhkpkebiinglaa
open Go.RowKit

theorem info3 : (Try.prog.info? 3).map (fun i => (i.zero, i.size, i.bytes)) = some (some (.int .i64 0), 1, 8) := by kernel_rfl
theorem rat_any (ao : Option Addr) (n cap : Nat) (L : List Nat) (hn : L.length = n) (i : Nat) (w : World) (h : RowAt w .i64 ao cap L) :
    Calls Try.prog 72 #[.slice ao n cap, .int .i64 (i : Int)] w fun e w' => e = .returned (.int .i64 (L.getD i 0 : Nat)) ∧ w = w' := by
  subst hn
  have hm := h.max
  have hle := h.le
  unfold maxLen at hm
  by_cases hlt : i < L.length
  · obtain ⟨b, rfl, hb, hc⟩ := h.cell i hlt
    rw [getD_lt hlt]
    generalize L[i] = x at *
    clear h
    go_enter Try.func72, Try.ntmps72
    go_wp2
    go_ret
    exact ⟨rfl, rfl⟩
  · have e : L.getD i 0 = 0 := by simp [List.getD, Nat.le_of_not_lt hlt]
    rw [e]
    clear h
    go_enter Try.func72, Try.ntmps72
    go_wp2
    go_ret
    exact ⟨rfl, rfl⟩

theorem ended_any (s : ByteArray) (hs : s.size ≤ maxLen) (w : World) :
    Calls Try.prog 63 #[.string s] w fun e w' => e = .returned (if 16384 < s.size then .tuple #[.string ⟨#[]⟩, .int .i64 4] else .tuple #[.string s, .int .i64 0]) ∧ w = w' := by
  unfold maxLen at hs
  by_cases h : 16384 < s.size
  · rw [if_pos h]
    go_enter Try.func63, Try.ntmps63
    go_wp2
    go_ret2
    exact ⟨rfl, rfl⟩
  · rw [if_neg h]
    go_enter Try.func63, Try.ntmps63
    go_wp2
    go_ret2
    exact ⟨rfl, rfl⟩
theorem ended_enc (N : Nat) (hN : (digs 256 N).length ≤ 1000000) (w : World) :
    Calls Try.prog 63 #[.string (enc N)] w fun e w' => e = .returned (endN N) ∧ w = w' := by
  refine (ended_any (enc N) (by rw [enc_size]; unfold maxLen; omega) w).mono ?_
  rintro e w' ⟨rfl, rfl⟩
  refine ⟨?_, rfl⟩
  rw [enc_size]
  unfold endN endS endE
  split <;> rfl

theorem bytesR_take (s : ByteArray) (i : Nat) (h : i < s.size) : (bytesR s).take (i + 1) = (bytesR s).take i ++ [(bytesR s)[i]'(by rw [bytesR_len]; exact h)] :=
  List.take_succ_eq_append_getElem (by rw [bytesR_len]; exact h)
set_option maxRecDepth 20000 in
theorem digits_any (s : ByteArray) (hs : s.size ≤ 1000000) (w : World) :
    Calls Try.prog 71 #[.string s] w fun e w' => ∃ ao n cap, e = .returned (.slice ao n cap) ∧ Hid ((bytesR s).length = n) ∧ Hid (RowAt w' .i64 ao cap (bytesR s)) ∧ Below w.heap.size w w' := by
  go_enter Try.func71, Try.ntmps71
  go_wp2
  go_loopw [3, 4] (fun vo vi wr => ∃ i, i ≤ s.size ∧ vi = .int .i64 (((s.size - i : Nat) : Int) - 1) ∧ Hid (Ap w 3 .i64 vo ((bytesR s).take i) wr)) (fun _ vi _ => (intOf vi + 1).toNat)
  case atStart => exact ⟨0, Nat.zero_le _, by congr 1, Ap.nil _ _ _⟩
  case round =>
    obtain ⟨i, hi, rfl, HW⟩ := hrel
    by_cases hlt : i < s.size
    · obtain ⟨m, hm⟩ : ∃ m, m = s.size - 1 - i := ⟨_, rfl⟩
      have hms : m < s.size := by omega
      have e1 : ((s.size - i : Nat) : Int) - 1 = (m : Int) := by omega
      have HT := Lib.hid (bytesR_take s i hlt)
      rw [bytesR_get s i _ m hm hms] at HT
      have hmi : s.size - (i + 1) = m := by omega
      have HMI := Lib.hid hmi
      have HLN : Hid (((bytesR s).take i).length ≤ 10000000) := by show _ ≤ _; rw [List.length_take, bytesR_len]; omega
      have HE := Lib.hid e1
      rw [e1]
      clear hm hmi e1
      go_wp2_with (first | (at_builtin; refine wpList_append_one rfl _ _ 84 rfl Try.underlying84 info3 rfl (by omega) w HW.out s[m].toNat _ rfl rfl (by have := UInt8.toNat_lt s[m]; unfold wrap64; omega) HLN.out ?_; intro v1 w2 hap1))
      go_roundw
      case rel => exact ⟨i + 1, by omega, by rw [HMI.out], by show Ap _ _ _ _ _ _; rw [HT.out]; exact hap1⟩
      case measure => simp [intOf]
    · have hie : i = s.size := by omega
      subst hie
      rw [List.take_of_length_le (by rw [bytesR_len]; exact Nat.le_refl _)] at HW
      have e0 : ((s.size - s.size : Nat) : Int) - 1 = -1 := by omega
      rw [e0]
      obtain ⟨ao, cap, hv, hr⟩ := own_slice HW.out.own
      subst hv
      have HR := Lib.hid hr
      have hmx := hr.max
      have hle := hr.le
      clear hr e0
      generalize hn : (bytesR s).length = n at hle ⊢
      have HL : Hid ((bytesR s).length = n) := hn
      clear hn
      go_wp2
      go_ret
      exact ⟨ao, n, cap, rfl, HL, HR, HW.out.below⟩

theorem Own.of_ap {w0 w : World} {e : TypeId} {k : IntKind} {g n : Nat} {L : List Nat} (h : Ap w0 e k (.slice (some ⟨g, 0, none⟩) n n) L w) (hn : L.length = n) : Own w0 e k g L w := by
  subst hn; exact ⟨h.own, h.below⟩
set_option maxRecDepth 20000 in
/-- The reference's made: the value's own bytes. -/
theorem made_any (ao : Option Addr) (n cap : Nat) (L : List Nat) (hn : L.length = n) (hL : ∀ d ∈ L, d < 256) (hl : n ≤ 1000000) (w : World) (h : RowAt w .i64 ao cap L) :
    Calls Try.prog 67 #[.slice ao n cap] w fun e w' => e = .returned (.string (enc (dval 256 L))) ∧ Below w.heap.size w w' := by
  subst hn
  have hm := h.max
  have hle := h.le
  have HR := Lib.hid h
  have HL := Lib.hid hL
  have HST := Lib.hid fun k h1 h2 => CutAt.stop (B := 256) (by omega) (n := k) hL h1 h2
  have HTK := Lib.hid (take_digs (B := 256) (by omega) L hL)
  have HENC : Hid (enc (dval 256 L) = strOfNums ((digs 256 (dval 256 L)).reverse.map fun d : Nat => (d : Int))) := rfl
  unfold maxLen at hm
  clear h hL
  go_enter Try.func67, Try.ntmps67
  go_wp2
  go_loop [3] (fun v => ∃ k, k ≤ L.length ∧ v = .int .i64 ((k : Nat) : Int) ∧ Hid (CutAt L k)) (fun v => (intOf v).toNat)
  case atStart => exact ⟨L.length, Nat.le_refl _, rfl, ⟨Nat.le_refl _, fun i hi => by simp [List.getD, hi]⟩⟩
  case round =>
    obtain ⟨k, hk, rfl, HCA⟩ := hrel
    by_cases hgo : 0 < k ∧ L.getD (k - 1) 0 = 0
    · obtain ⟨hk0, hz⟩ := hgo
      have hk1 : k - 1 < L.length := by omega
      obtain ⟨b, rfl, hb, hc⟩ := HR.out.cell (k - 1) hk1
      rw [getD_lt hk1] at hz
      rw [hz] at hc
      have HCN : Hid (CutAt L (k - 1)) := by
        refine ⟨by omega, fun i hi => ?_⟩
        by_cases hik : i = k - 1
        · subst hik; rw [getD_lt hk1]; exact hz
        · exact HCA.out.2 i (by omega)
      clear hz
      go_wp2
      go_round
      case rel => exact ⟨k - 1, by omega, by congr 1; omega, HCN⟩
      case measure => simp [intOf]; omega
    · have hke := HST.out k HCA.out (by omega)
      have hD := HTK.out
      rw [← hke] at hD
      have HD := Lib.hid hD
      have HKE := Lib.hid hke
      have HGO := Lib.hid hgo
      have hkl : k ≤ 1000000 := by omega
      clear hke hD hgo HCA
      have hstop : ¬ 0 < k ∨ ∃ (b x : Nat), ao = some ⟨b, 0, none⟩ ∧ b < w.heap.size ∧ 0 < k ∧ w.cell? ⟨b, k - 1, none⟩ = some (.int .i64 (x : Int)) ∧ ((x : Int) == 0) = false := by
        rcases Nat.eq_zero_or_pos k with h0 | h0
        · exact .inl (by omega)
        · right
          have hk1 : k - 1 < L.length := by omega
          obtain ⟨b, e, hb, hc⟩ := HR.out.cell (k - 1) hk1
          refine ⟨b, L[k - 1], e, hb, h0, hc, ?_⟩
          have := HGO.out
          rw [getD_lt hk1] at this
          rw [beq_eq_false_iff_ne]; omega
      have HLT : Hid (∀ i, i < k → i < L.length) := fun i h => by omega
      have HVL : Hid (∀ i (h : i < k) (h2 : i < L.length) (h3 : i < (digs 256 (dval 256 L)).length), L[i] = (digs 256 (dval 256 L))[i] ∧ L[i] < 256) := fun i h h2 h3 => by
        refine ⟨?_, HL.out _ (List.getElem_mem h2)⟩
        have e := HD.out
        have : (digs 256 (dval 256 L))[i] = (L.take k)[i]'(by rw [List.length_take]; omega) := by congr 1; exact e.symm
        rw [this, List.getElem_take]
      have HDK : Hid ((digs 256 (dval 256 L)).length = k) := HKE.out.symm
      clear HD HKE HGO HTK HST
      generalize digs 256 (dval 256 L) = D at *
      rcases hstop with hdec | ⟨b, x, rfl, hb, hk0, hcx, hx⟩
      all_goals
        go_wp2_with (first | (at_make; refine wpList_make_ap rfl _ _ 75 rfl Try.underlying75 info5 (by omega) w (Below.refl _ _) k k _ _ .i64 .i64 rfl rfl rfl rfl (by omega) (by omega) ?_; intro w7 hap7 hs7 hb7))
        have HO : Hid (Own w 5 .u8 w.heap.size (laid D 0) w7) := by
          have := Own.of_ap hap7 (by simp)
          rw [laid_zero, HDK.out]; exact this
        clear hap7 hs7 hb7
        go_loopw [5] (fun vi wr => ∃ i, i ≤ k ∧ vi = .int .i64 ((i : Nat) : Int) ∧ Hid (Own w 5 .u8 w.heap.size (laid D i) wr)) (fun vi _ => k - (intOf vi).toNat)
        case atStart => exact ⟨0, Nat.zero_le _, rfl, HO⟩
        case round =>
          obtain ⟨i, hi, rfl, HW⟩ := hrel
          clear HO
          by_cases hlt : i < k
          · try omega
            all_goals
              have hj := HLT.out i hlt
              obtain ⟨b2, hb2, hlt2, hc2⟩ := HR.out.get HW.out.below i hj
              cases hb2
              obtain ⟨hv1, hv2⟩ := HVL.out i hlt hj (by rw [HDK.out]; exact hlt)
              have HSTEP := Lib.hid (laid_step D i (by rw [HDK.out]; exact hlt))
              rw [← hv1, HDK.out] at HSTEP
              have hll : (laid D i).length = k := by rw [laid_len _ _ (by rw [HDK.out]; exact hi), HDK.out]
              have hcell := HW.out.cell (k - 1 - i) (by rw [hll]; omega)
              have hfz := HW.out.frozen (k - 1 - i)
              have HSTO := Lib.hid (fun d => HW.out.store (k - 1 - i) d)
              generalize (laid D i)[k - 1 - i]'(by rw [hll]; omega) = o at hcell
              generalize L[i] = y at *
              have hlt3 : w.heap.size ≤ wr.heap.size := HW.out.below.size
              clear hv1 hll
              go_wp2
              go_roundw
              case rel => exact ⟨i + 1, by omega, by go_num, by show Own _ _ _ _ _ _; rw [← HSTEP.out]; exact HSTO.out y⟩
              case measure => simp [intOf]; omega
          · have hie : i = k := by omega
            subst hie
            have HCV : Hid ((convert 75 9 (.slice (some ⟨w.heap.size, 0, none⟩) i i)).run Try.prog wr = .ok (.string (enc (dval 256 L))) wr) := by
              show _ = _
              rw [HENC.out]
              refine run_convert_bytes_arg wr 75 5 Try.underlying75 Try.underlying5 w.heap.size 0 i i _ (by simp [HDK.out]) ?_ 9 Try.underlying9
              intro j hj
              have hDl := HDK.out
              have h1 : j < (laid D i).length := by rw [laid_len _ _ (by omega), hDl]; exact hj
              have hc := HW.out.cell j h1
              rw [Nat.zero_add, hc]
              subst hDl
              simp [laid_all, List.getD, hj]
            go_wp2_with (rw [HCV.out])
            go_ret
            exact ⟨rfl, HW.out.below⟩
end Go.Proofs.Ytfhkpkebiinglaa
