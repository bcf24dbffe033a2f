/-
  The walk of the reference's Read.
-/
import Derived.Test.YtfhkpkebiinglaaBack
namespace Go.Proofs.Ytfhkpkebiinglaa
open Go.RowKit

/-- The digits times ten and the carry, a limb more where the carry needs it. -/
structure RdIn (A : List Nat) (c0 i c : Nat) (L : List Nat) : Prop where
  lt : ∀ x ∈ L, x < 256
  upto : i ≤ L.length
  rest : L.drop i = A.drop i
  carry : c < 10
  far : i ≤ A.length ∨ (i = A.length + 1 ∧ c = 0)
  val : dval 256 (L.take i) + c * 256 ^ i = dval 256 (A.take i) * 10 + c0
theorem RdIn.start {A : List Nat} {c0 : Nat} (hA : ∀ x ∈ A, x < 256) (hc : c0 < 10) : RdIn A c0 0 c0 A := ⟨hA, Nat.zero_le _, rfl, hc, .inl (Nat.zero_le _), by simp [dval]⟩
theorem RdIn.len {A : List Nat} {c0 i c : Nat} {L : List Nat} (h : RdIn A c0 i c L) : L.length - i = A.length - i := by
  have := congrArg List.length h.rest
  rwa [List.length_drop, List.length_drop] at this
theorem RdIn.get {A : List Nat} {c0 i c : Nat} {L : List Nat} (h : RdIn A c0 i c L) (hO : i < L.length) : ∃ hi : i < A.length, L[i] = A[i] := by
  have hl := h.len
  have hi : i < A.length := by omega
  have h1 := h.rest
  rw [List.drop_eq_getElem_cons hi, List.drop_eq_getElem_cons hO] at h1
  exact ⟨hi, (List.cons.inj h1).1⟩
theorem RdIn.step {A : List Nat} {c0 i c : Nat} {L : List Nat} (h : RdIn A c0 i c L) (hi : i < L.length) :
    RdIn A c0 (i + 1) ((c + 10 * L[i]) / 256) (L.set i ((c + 10 * L[i]) % 256)) := by
  obtain ⟨hiA, hg⟩ := h.get hi
  have hx := h.lt _ (List.getElem_mem hi)
  have hc := h.carry
  refine ⟨mem_set_lt h.lt (Nat.mod_lt _ (by omega)), by rw [List.length_set]; exact hi, ?_, by omega, .inl hiA, ?_⟩
  · rw [List.drop_set_of_lt (by omega)]
    have h1 := congrArg (List.drop 1) h.rest
    rw [List.drop_drop, List.drop_drop] at h1
    exact h1
  · rw [dval_take_set 256 L i _ hi, dval_take_succ 256 A i hiA, ← hg]
    have hv := h.val
    generalize L[i] = x at *
    have hdm := Nat.div_add_mod (c + 10 * x) 256
    generalize (c + 10 * x) / 256 = q at *
    generalize (c + 10 * x) % 256 = r at *
    have e1 : q * 256 ^ (i + 1) = 256 ^ i * (256 * q) := by rw [Nat.pow_succ, Nat.mul_comm, Nat.mul_assoc]
    have e2 : 256 ^ i * (256 * q + r) = 256 ^ i * (c + 10 * x) := by rw [hdm]
    rw [Nat.mul_add, Nat.mul_add, Nat.mul_comm (256 ^ i) c] at e2
    have e3 : 256 ^ i * (10 * x) = 256 ^ i * x * 10 := by rw [Nat.mul_comm 10 x, Nat.mul_assoc]
    rw [e1, Nat.add_mul]
    omega
theorem RdIn.more {A : List Nat} {c0 c : Nat} {L : List Nat} (h : RdIn A c0 L.length c L) (h0 : 0 < c) :
    A.length = L.length ∧ RdIn A c0 (L.length + 1) (c / 256) (L ++ [c % 256]) := by
  have hl := h.len
  have hc := h.carry
  have hA : L.length = A.length := by
    rcases h.far with h1 | ⟨h1, h2⟩ <;> omega
  have h1 : c % 256 = c := Nat.mod_eq_of_lt (by omega)
  have h2 : c / 256 = 0 := Nat.div_eq_of_lt (by omega)
  rw [h1, h2]
  have hv := h.val
  rw [List.take_of_length_le (Nat.le_refl _), List.take_of_length_le (by omega)] at hv
  refine ⟨hA.symm, snoc_lt h.lt (by omega), by rw [List.length_append]; simp, ?_, by omega, .inr ⟨by omega, rfl⟩, ?_⟩
  · rw [List.drop_of_length_le (by rw [List.length_append]; simp), List.drop_of_length_le (by omega)]
  · rw [List.take_of_length_le (by rw [List.length_append]; simp), List.take_of_length_le (by omega), dval_snoc]
    rw [Nat.mul_comm (256 ^ _) c]
    omega
theorem RdIn.leave {A : List Nat} {c0 i : Nat} {L : List Nat} (h : RdIn A c0 i 0 L) (hi : ¬ i < L.length) : dval 256 L = dval 256 A * 10 + c0 := by
  have hl := h.len
  have hu := h.upto
  have hv := h.val
  rw [List.take_of_length_le (by omega), List.take_of_length_le (by omega)] at hv
  omega

set_option maxRecDepth 20000 in
set_option maxHeartbeats 2000000 in
theorem rRead_main (s : ByteArray) (hd : DigOk s) (hs : s.size ≤ maxLen) (w : World) :
    Calls Try.prog 43 #[.string s] w fun e w' => (∃ v, readIs s v ∧ e = .returned v) ∧ Below w.heap.size w w' := by
  have HD := Lib.hid hd
  have hz3 : ¬ s.toList = [] := fun h => hd.ne ((toList_nil s).1 h)
  have hz2 : s.toList.isEmpty = false := by rw [isEmpty_size]; simp [hd.ne]
  have hp : 0 < s.size := Nat.pos_of_ne_zero hd.ne
  have hlead : (((s[0].toNat : Int) == 48) = true ∧ ¬ ((1 : Int) < (s.size : Int))) ∨ ((s[0].toNat : Int) == 48) = false := by
    by_cases h1 : s[0].toNat = 48
    · exact .inl ⟨by rw [h1]; rfl, fun h => hd.lead (by omega) hp h1⟩
    · exact .inr (by rw [beq_eq_false_iff_ne]; omega)
  unfold maxLen at hs
  clear hd
  rcases hlead with ⟨h2, h1⟩ | h2
  all_goals
    go_enter Try.func43, Try.ntmps43
    go_wp2
    go_loop [4] (fun vi => ∃ i : Nat, i ≤ s.size ∧ vi = .int .i64 (i : Int)) (fun vi => s.size - (intOf vi).toNat)
    case atStart => exact ⟨0, Nat.zero_le _, rfl⟩
    case round =>
      obtain ⟨i, hi, rfl⟩ := hrel
      by_cases hlt : i < s.size
      · obtain ⟨g1, g2⟩ := HD.out.all i hlt
        have n1 : ¬ s[i].toNat < 48 := by omega
        have n2 : ¬ 57 < s[i].toNat := by omega
        go_wp2
        go_round
        case rel => exact ⟨i + 1, by omega, by go_num⟩
        case measure => simp [intOf]; omega
      · by_cases hbig : 49152 < s.size
        · have hbz : (49152 : Int) < (s.size : Int) := by omega
          go_wp2
          go_ret2
          exact ⟨⟨_, .inr (.inl ⟨HD.out, hbig, rfl⟩), rfl⟩, Below.refl _ _⟩
        · have hbz : ¬ (49152 : Int) < (s.size : Int) := by omega
          have hs2 : s.size ≤ 49152 := by omega
          clear hbig hs
          go_wp2
          clear hlt hi
          go_loopw [5, 6] (fun vl vf wr => ∃ (f : Nat) (ao : Option Addr) (n cap : Nat) (L : List Nat), f ≤ s.size ∧ vf = .int .i64 (f : Int) ∧ vl = .slice ao n cap ∧ Hid (L.length = n) ∧ n ≤ f ∧ Hid (∀ d ∈ L, d < 256) ∧ Hid (dval 256 L = tpre s f) ∧ Hid (Ap w 3 .i64 (.slice ao n cap) L wr)) (fun _ vf _ => s.size - (intOf vf).toNat)
          case atStart => exact ⟨0, none, 0, 0, [], Nat.zero_le _, rfl, rfl, rfl, Nat.le_refl _, (fun d h => by cases h), (tpre_zero s).symm, Ap.nil _ _ _⟩
          case round =>
            obtain ⟨f, ao, n, cap, A, hf, rfl, rfl, HN, hnf, HL, HV, HW⟩ := hrel
            by_cases hfl : f < s.size
            · obtain ⟨g1, g2⟩ := HD.out.all f hfl
              have HTS := Lib.hid (tpre_succ s f hfl)
              obtain ⟨c0, hc0⟩ : ∃ c0, s[f].toNat = c0 + 48 := ⟨s[f].toNat - 48, by omega⟩
              have hct : s[f].toNat - 48 = c0 := by omega
              rw [hct] at HTS
              have HC0 := Lib.hid hc0
              have HRS := Lib.hid (RdIn.start (A := A) (c0 := c0) HL.out (by omega))
              have hc9 : c0 < 10 := by omega
              have hnf2 : n ≤ 49152 := by omega
              clear hc0 hct
              go_wp2
              go_loopw [5, 7, 8] (fun vl vc vi wi => ∃ (i c m ca : Nat) (aa : Option Addr) (L : List Nat), vi = .int .i64 (i : Int) ∧ vc = .int .i64 (c : Int) ∧ vl = .slice aa m ca ∧ c < 10 ∧ i ≤ m ∧ m ≤ n + 1 ∧ Hid (L.length = m) ∧ Hid (RdIn A c0 i c L) ∧ Hid (Ap w 3 .i64 (.slice aa m ca) L wi)) (fun _ _ vi _ => n + 2 - (intOf vi).toNat)
              case atStart => exact ⟨0, c0, n, cap, ao, A, rfl, by congr 1; have := HC0.out; omega, rfl, hc9, Nat.zero_le _, by omega, HN, HRS, HW⟩
              case round =>
                obtain ⟨i, c, m, ca, aa, L, rfl, rfl, rfl, hc, him, hmn, HM, HR, HWO⟩ := hrel
                have HN2 := Lib.hid hnf2
                have HMN := Lib.hid hmn
                have hm6 : m ≤ 50000 := by omega
                have HLEN : Hid (L.length ≤ 10000000) := by show _ ≤ _; rw [HM.out]; omega
                have HLT := Lib.hid fun (i c : Nat) (L : List Nat) (h : RdIn A c0 i c L) => h.far
                have HAN : Hid (A.length = n) := HN
                by_cases hil : i < m
                · have hiL : i < L.length := by rw [HM.out]; exact hil
                  obtain ⟨gb, rfl, hg2, hg3⟩ := HWO.out.some (by omega)
                  have hcell := HWO.out.cell i hiL
                  have hfz := HWO.out.frozen HM.out i
                  have HSTO := Lib.hid fun y => HWO.out.store HM.out i y
                  have HRX := Lib.hid (HR.out.step hiL)
                  have hx := HR.out.lt _ (List.getElem_mem hiL)
                  generalize L[i] = x at *
                  have HX := Lib.hid hx
                  have HIL : Hid (i < m) := hil
                  clear hnf hf hnf2 hc9 hmn hiL
                  go_wp2
                  go_roundw
                  case rel => exact ⟨i + 1, (c + 10 * x) / 256, m, ca, _, L.set i ((c + 10 * x) % 256), by go_num, by go_num, rfl, by omega, HIL.out, HMN.out, by show _ = _; rw [List.length_set]; exact HM.out, HRX, HSTO.out _⟩
                  case measure => have := HIL.out; have := HMN.out; simp [intOf]; omega
                · have hie : i = m := by have := HR.out.upto; omega
                  subst hie
                  by_cases hc1 : 0 < c
                  · have HMO : Hid (n = i ∧ RdIn A c0 (i + 1) (c / 256) (L ++ [c % 256])) := by
                      have h := HR.out
                      have e : L.length = i := HM.out
                      subst e
                      have h2 := h.more hc1
                      exact ⟨by rw [← HN.out]; exact h2.1, h2.2⟩
                    clear hnf hf hnf2 hc9 hmn
                    go_wp2_with (first | (at_builtin; refine wpList_append_one rfl _ _ 84 rfl Try.underlying84 info3 rfl (by omega) w HWO.out 0 _ rfl rfl (by omega) HLEN.out ?_; intro v1 w2 hap1; obtain ⟨a2, c2, hv2, hr2⟩ := own_slice hap1.own; rw [List.length_append, List.length_singleton, HM.out] at hv2; subst hv2; obtain ⟨gb, rfl, hg2, hg3⟩ := hap1.some (by simp); have hcell := hap1.cell i (by rw [List.length_append, HM.out]; simp); have hfz := hap1.frozen (by rw [List.length_append, HM.out]; rfl) i; have HSTO := Lib.hid fun y => hap1.store (by rw [List.length_append, HM.out]; rfl) i y; have HE := Lib.hid (show (L ++ [0])[i]'(by rw [List.length_append, HM.out]; simp) = 0 by rw [List.getElem_append_right (by rw [HM.out]; exact Nat.le_refl _)]; simp); rw [HE.out] at hcell; clear hap1 hr2))
                    go_roundw
                    case rel => exact ⟨i + 1, c / 256, i + 1, c2, _, L ++ [c % 256], by go_num, by go_num, rfl, by omega, Nat.le_refl _, by rw [HMO.out.1]; exact Nat.le_refl _, by show _ = _; rw [List.length_append, HM.out]; rfl, HMO.out.2, by have h := HSTO.out (c % 256); have e : (L ++ [0]).set i (c % 256) = L ++ [c % 256] := (by rw [← HM.out, List.set_append_right _ _ (Nat.le_refl _), Nat.sub_self, List.set_cons_zero]); rw [e] at h; exact h⟩
                    case measure => have := HMO.out.1; simp [intOf]; omega
                  · have hc2 : c = 0 := by omega
                    subst hc2
                    have hv := HR.out.leave (by rw [HM.out]; omega)
                    rw [HV.out] at hv
                    have hfar := HR.out.far
                    have hlf : i ≤ f + 1 := by have := HAN.out; omega
                    have HLF := Lib.hid hlf
                    have HFL := Lib.hid hfl
                    have HV2 : Hid (dval 256 L = tpre s (f + 1)) := by show _ = _; rw [hv, HTS.out]; omega
                    clear hv hfar hlf hnf hf hmn hc9 hnf2
                    go_wp2
                    go_roundw
                    case rel => exact ⟨f + 1, aa, i, ca, L, HFL.out, by go_num, rfl, HM, HLF.out, HR.out.lt, HV2, HWO⟩
                    case measure => have := HFL.out; simp [intOf]; omega
            · have hfe : f = s.size := by omega
              subst hfe
              obtain ⟨a2, c2, hv2, hr2⟩ := own_slice HW.out.own
              rw [HN.out] at hv2
              simp only [Value.slice.injEq, true_and] at hv2
              obtain ⟨rfl, rfl⟩ := hv2
              have HMD := Lib.hid (made_any ao n cap A HN.out HL.out (by omega) wr hr2)
              rw [HV.out, tpre_all] at HMD
              have HEN := Lib.hid fun W => ended_enc (tval s) (by
                have h1 := dval_lt 256 A HL.out
                rw [HV.out, tpre_all] at h1
                have h2 := (digs_len (B := 256) (by omega) (tval s) A.length).2 h1
                rw [HN.out] at h2
                omega) W
              clear hr2 hnf
              go_wp2_with (first | (go_at_call 67; with_reducible refine HMD.out.mono ?_; rintro e w5 ⟨rfl, B5⟩) | (go_at_call 63; with_reducible refine (HEN.out _).mono ?_; rintro e w6 ⟨rfl, rfl⟩; unfold endN))
              go_ret2
              exact ⟨⟨_, .inr (.inr ⟨HD.out, hs2, rfl⟩), rfl⟩, HW.out.below.on B5⟩

set_option maxRecDepth 20000 in
set_option maxHeartbeats 1000000 in
theorem rRead_any (s : ByteArray) (hs : s.size ≤ maxLen) (w : World) :
    Calls Try.prog 43 #[.string s] w fun e w' => (∃ v, readIs s v ∧ e = .returned v) ∧ Below w.heap.size w w' := by
  by_cases hd : DigOk s
  · exact rRead_main s hd hs w
  · have fin : ∀ e w', e = Ending.returned (.tuple #[.string ⟨#[]⟩, .int .i64 22]) → w = w' → (∃ v, readIs s v ∧ e = .returned v) ∧ Below w.heap.size w w' := by
      rintro e w' rfl rfl
      exact ⟨⟨_, .inl ⟨hd, rfl⟩, rfl⟩, Below.refl _ _⟩
    suffices hmain : Calls Try.prog 43 #[.string s] w fun e w' => e = Ending.returned (.tuple #[.string ⟨#[]⟩, .int .i64 22]) ∧ w = w' from hmain.mono fun e w' h => fin e w' h.1 h.2
    clear fin
    by_cases h0 : s.size = 0
    · have hz3 : s.toList = [] := (toList_nil s).2 h0
      have hz2 : s.toList.isEmpty = true := by rw [isEmpty_size]; simp [h0]
      clear hd
      go_enter Try.func43, Try.ntmps43
      go_wp2
      go_ret2
      exact ⟨rfl, rfl⟩
    · have hz3 : ¬ s.toList = [] := fun h => h0 ((toList_nil s).1 h)
      have hz2 : s.toList.isEmpty = false := by rw [isEmpty_size]; simp [h0]
      have hp : 0 < s.size := Nat.pos_of_ne_zero h0
      by_cases hl : 1 < s.size ∧ s[0].toNat = 48
      · have h1 : (1 : Int) < (s.size : Int) := by omega
        have h2 : ((s[0].toNat : Int) == 48) = true := by rw [hl.2]; rfl
        unfold maxLen at hs
        clear hd hl
        go_enter Try.func43, Try.ntmps43
        go_wp2
        go_ret2
        exact ⟨rfl, rfl⟩
      · have hbad : ∃ i, ∃ h : i < s.size, ¬ (48 ≤ s[i].toNat ∧ s[i].toNat ≤ 57) := by
          apply Classical.byContradiction
          intro hn
          apply hd
          refine ⟨h0, fun h1 h2 h3 => hl ⟨h1, h3⟩, fun i h => ?_⟩
          apply Classical.byContradiction
          intro hc
          exact hn ⟨i, h, hc⟩
        have hlead : (((s[0].toNat : Int) == 48) = true ∧ ¬ ((1 : Int) < (s.size : Int))) ∨ ((s[0].toNat : Int) == 48) = false := by
          by_cases h1 : s[0].toNat = 48
          · exact .inl ⟨by rw [h1]; rfl, fun h => hl ⟨by omega, h1⟩⟩
          · exact .inr (by rw [beq_eq_false_iff_ne]; omega)
        have HBAD := Lib.hid hbad
        unfold maxLen at hs
        clear hd hl hbad
        rcases hlead with ⟨h2, h1⟩ | h2
        all_goals
          go_enter Try.func43, Try.ntmps43
          go_wp2
          go_loop [4] (fun vi => ∃ i : Nat, i ≤ s.size ∧ vi = .int .i64 (i : Int) ∧ Hid (∀ j (h : j < s.size), j < i → 48 ≤ s[j].toNat ∧ s[j].toNat ≤ 57)) (fun vi => s.size - (intOf vi).toNat)
          case atStart => exact ⟨0, Nat.zero_le _, rfl, fun j _ h => absurd h (Nat.not_lt_zero _)⟩
          case round =>
            obtain ⟨i, hi, rfl, HALL⟩ := hrel
            have hlt : i < s.size := by
              obtain ⟨j, hj, hb⟩ := HBAD.out
              rcases Nat.lt_or_ge i s.size with h | h
              · exact h
              · exact absurd (HALL.out j hj (by omega)) hb
            by_cases hgood : 48 ≤ s[i].toNat ∧ s[i].toNat ≤ 57
            · have HN : Hid (∀ j (h : j < s.size), j < i + 1 → 48 ≤ s[j].toNat ∧ s[j].toNat ≤ 57) := fun j h hj => by
                by_cases e : j = i
                · subst e; exact hgood
                · exact HALL.out j h (by omega)
              obtain ⟨g1, g2⟩ := hgood
              have n1 : ¬ s[i].toNat < 48 := by omega
              have n2 : ¬ 57 < s[i].toNat := by omega
              go_wp2
              go_round
              case rel => exact ⟨i + 1, by omega, by go_num, HN⟩
              case measure => simp [intOf]; omega
            · by_cases hlow : s[i].toNat < 48
              · clear hgood
                go_wp2
                go_ret2
                exact ⟨rfl, rfl⟩
              · have n2 : 57 < s[i].toNat := by omega
                clear hgood
                go_wp2
                go_ret2
                exact ⟨rfl, rfl⟩
end Go.Proofs.Ytfhkpkebiinglaa
