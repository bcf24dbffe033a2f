/-
  The walk of the reference's Text.
-/
import Derived.Test.YtfhkpkebiinglaaRtp
namespace Go.Proofs.Ytfhkpkebiinglaa
open Go.RowKit

theorem ten_len (a : ByteArray) (hok : Ok a) : (digs 10 (bval a)).length ≤ 49152 := by
  have h1 := bval_lt a
  have h2 : 256 ^ a.size ≤ (10 ^ 3) ^ a.size := Nat.pow_le_pow_left (by decide) _
  rw [← Nat.pow_mul] at h2
  have h3 := (digs_len (B := 10) (by omega) (bval a) (3 * a.size)).2 (by omega)
  have h4 := hok.1
  omega
set_option maxRecDepth 20000 in
set_option maxHeartbeats 2000000 in
theorem rText_any (a : ByteArray) (hok : Ok a) (w : World) :
    Calls Try.prog 41 #[.string a] w fun e w' => e = .returned (.string (dec (bval a))) ∧ Below w.heap.size w w' := by
  have h0 := ok_zero a hok
  by_cases ha0 : a.size = 0
  · have hR : Hid (dec (bval a) = ⟨#[48]⟩) := by show _ = _; rw [h0.2 ha0]; rfl
    have hz2 : a.toList.isEmpty = true := by rw [isEmpty_size]; simp [ha0]
    have hz3 : a.toList = [] := (toList_nil a).2 ha0
    clear h0 hok
    go_enter Try.func41, Try.ntmps41
    go_wp2
    go_ret
    exact ⟨by rw [hR.out]; rfl, Below.refl _ _⟩
  · have hz2 : a.toList.isEmpty = false := by rw [isEmpty_size]; simp [ha0]
    have hz3 : ¬ a.toList = [] := fun h => ha0 ((toList_nil a).1 h)
    have HN0 : Hid (bval a ≠ 0) := fun e => ha0 (h0.1 e)
    have HST := Lib.hid (ok_len a hok)
    have HTL := Lib.hid (ten_len a hok)
    have HDG := Lib.hid fun W => digits_own a (by have := hok.1; omega) W
    have HBL := Lib.hid (bytesR_lt a)
    have HBN := Lib.hid (bytesR_len a)
    have hsz := hok.1
    have HBV : Hid (bval a = dval 256 (bytesR a)) := rfl
    clear h0 hok
    go_enter Try.func41, Try.ntmps41
    go_wp2_with (go_at_call 71; refine (HDG.out _).mono ?_; rintro e w2 ⟨aa, n0, cd, rfl, EN, HA⟩; obtain ⟨gd, rfl, hgd, hgl⟩ := HA.out.some (by rw [HBN.out]; omega); have HEN : Hid (n0 = a.size) := (EN.out.symm.trans HBN.out))
    have hn6 : n0 ≤ 16384 := by rw [HEN.out]; exact hsz
    have HT0 : Hid (TwoOwn w w2 gd n0 cd (bytesR a) (.slice none 0 0) (up [])) := ⟨HA, Ap.nil' 5 .u8 HA.out.below, by simp [Value.ownBlock]⟩
    clear hgd hgl hsz ha0
    go_loopw [4, 5] (fun vo vn wr => ∃ (L O : List Nat) (n : Nat), vn = .int .i64 (n : Int) ∧ n ≤ n0 ∧ Hid (L.length = n0) ∧ Hid (∀ x ∈ L, x < 256) ∧ Hid (CutAt L n) ∧ Hid (n = (digs 256 (dval 256 L)).length) ∧ Hid (O ++ digs 10 (dval 256 L) = digs 10 (bval a)) ∧ Hid (TwoOwn w wr gd n0 cd L vo (up O))) (fun vo _ _ => 60000 - lenOf vo)
    case atStart => exact ⟨bytesR a, [], n0, rfl, Nat.le_refl _, EN, HBL, ⟨by rw [EN.out]; exact Nat.le_refl _, fun i hi => by have := EN.out; simp [List.getD, this, hi]⟩, by show _ = _; rw [HEN.out, ← HST.out]; rfl, rfl, HT0⟩
    case round =>
      obtain ⟨L, O, n, rfl, hn, HL, HLT, HC, HNL, HO, HW⟩ := hrel
      clear HT0 HA EN
      have HOL : Hid (O.length ≤ 49152) := by
        have := congrArg List.length HO.out
        rw [List.length_append] at this
        have := HTL.out
        show _ ≤ _; omega
      by_cases hn0 : n = 0
      · subst hn0
        have hV : dval 256 L = 0 := (digs_nil (B := 256) (by omega)).1 (List.eq_nil_of_length_eq_zero HNL.out.symm)
        have hO := HO.out
        rw [hV, digs_zero, List.append_nil] at hO
        have hOne : O ≠ [] := by rw [hO]; intro e; exact HN0.out ((digs_nil (by omega)).1 e)
        have hOl : 0 < O.length := List.length_pos_iff.2 hOne
        have HDC := Lib.hid (dec_eq HN0.out)
        rw [← hO] at HDC
        obtain ⟨go, co, hvo, hgo, hgl⟩ := HW.out.out.own.form (by rw [up_len]; exact hOl)
        subst hvo
        have HAP := Lib.hid HW.out.out
        have HUL := Lib.hid (up_len O)
        rw [up_len] at HAP ⊢
        have HRV := Lib.hid (RevAt.start (up O))
        have hk6 := HOL.out
        generalize up O = T at *
        generalize O.length = k at *
        clear hV hO hOne HNL HC HLT HL HW hn
        go_wp2
        obtain ⟨wo, rfl⟩ : ∃ wo : World, wo = wr := ⟨_, rfl⟩
        go_loopw [8, 9] (fun vi vj wi => ∃ (i : Nat) (M : List Nat), vi = .int .i64 (i : Int) ∧ vj = .int .i64 ((k : Int) - 1 - i) ∧ 2 * i ≤ k ∧ Hid (RevAt T i M) ∧ Hid (Ap w 5 .u8 (.slice (some ⟨go, 0, none⟩) k co) M wi)) (fun vi _ _ => k - (intOf vi).toNat)
        case atStart => exact ⟨0, T, rfl, by congr 1; omega, by omega, HRV, HAP⟩
        case round =>
          obtain ⟨i, M, rfl, rfl, hik, HR, HP⟩ := hrel
          have hml : M.length = k := by rw [HR.out.len, HUL.out]
          by_cases hij : i < k - 1 - i
          · obtain ⟨j, hj⟩ : ∃ j, j = k - 1 - i := ⟨_, rfl⟩
            have ej : (k : Int) - 1 - (i : Int) = (j : Int) := by omega
            have hil : i < M.length := by omega
            have hjl : j < M.length := by omega
            have hc1 := HP.out.cell i hil
            have hc2 := HP.out.cell j hjl
            have hfz1 := HP.out.frozen hml i
            have HS1 := Lib.hid (HP.out.store hml i M[j])
            have HS2 := Lib.hid (HS1.out.store (by rw [List.length_set]; exact hml) j M[i])
            have hfz2 := HS1.out.frozen (by rw [List.length_set]; exact hml) j
            have HRX := Lib.hid (HR.out.step (by rw [HUL.out]; exact hj) (by omega) hil hjl)
            have hgol : go < wr.heap.size := (HP.out.own.lt go rfl).2
            generalize M[i] = x at *
            generalize M[j] = y at *
            have hij2 : i < j := by omega
            have hjk : j < k := by omega
            have HJ := Lib.hid hj
            rw [ej]
            clear hj ej hil hjl hml hij
            go_wp2
            go_roundw
            case rel => exact ⟨i + 1, _, by go_num, by have := HJ.out; congr 1; omega, by have := HJ.out; omega, HRX, HS2⟩
            case measure => simp [intOf]; omega
          · have hfin := HR.out.leave (by rw [HUL.out]; exact hij)
            have HOW := Lib.hid HP.out.own
            rw [hfin] at HOW
            have hlen : T.reverse.length = k := by rw [List.length_reverse, HUL.out]
            generalize T.reverse = Z at *
            rw [show k = Z.length from hlen.symm] at HOW
            have HCV : Hid ((convert 75 9 (.slice (some ⟨go, 0, none⟩) Z.length co)).run Try.prog wr = .ok (.string (dec (bval a))) wr) := by
              show _ = _
              rw [HDC.out]
              refine run_convert_bytes_arg wr 75 5 Try.underlying75 Try.underlying5 go 0 _ co _ (by simp) ?_ 9 Try.underlying9
              intro i hi
              obtain ⟨b, e, _, hc⟩ := (own_row HOW.out).2.cell i hi
              cases e
              rw [Nat.zero_add, hc]
              simp [List.getD, hi]
            rw [hlen] at HCV
            clear hlen hfin hml
            have hnj : ¬ (i : Int) < (k : Int) - 1 - i := by omega
            clear hij
            go_wp2_with (rw [HCV.out])
            go_ret
            exact ⟨rfl, HP.out.below⟩
      · have hV : dval 256 L ≠ 0 := fun e => hn0 (by rw [HNL.out, e]; rfl)
        have HDT := Lib.hid (digs_ten HO.out hV)
        have HTS := Lib.hid (TenAt.start HLT.out HC.out)
        have hnp : 0 < n := by omega
        clear hV hn0
        go_wp2
        obtain ⟨wo, rfl⟩ : ∃ wo : World, wo = wr := ⟨_, rfl⟩
        go_loopw [6, 7] (fun vr vi wi => ∃ (j r : Nat) (M : List Nat), vi = .int .i64 ((j : Int) - 1) ∧ vr = .int .i64 (r : Int) ∧ r < 10 ∧ j ≤ n ∧ Hid (TenAt L j r M) ∧ Hid (TwoOwn w wi gd n0 cd M u4 (up O))) (fun _ vi _ => (intOf vi + 1).toNat)
        case atStart => exact ⟨n, 0, L, rfl, rfl, by omega, Nat.le_refl _, HTS, HW⟩
        case round =>
          obtain ⟨j, r, M, rfl, rfl, hr, hj, HT, HP⟩ := hrel
          have hml : M.length = n0 := by rw [HT.out.len, HL.out]
          rcases j with _ | m
          · have e0 : ((0 : Nat) : Int) - 1 = -1 := by omega
            obtain ⟨hl1, hl2⟩ := HT.out.leave
            have HCM := Lib.hid (HT.out.cut HLT.out HC.out)
            have HDM := HDT
            rw [← hl1, ← hl2] at HDM
            have HML : Hid (M.length = n0) := hml
            have HMT := Lib.hid HT.out.lt
            have HLN : Hid ((up O).length ≤ 10000000) := by show _ ≤ _; rw [up_len]; have := HOL.out; omega
            have HSP := Lib.hid fun k h1 h2 => CutAt.stop (B := 256) (by omega) (n := k) HMT.out h1 h2
            rw [e0]
            clear hl1 hl2 HDT HTS HT hj hml e0
            go_wp2_with (first | (at_builtin; refine TwoOwn.append rfl _ _ 75 rfl Try.underlying75 info5 rfl (by omega) w HP.out (r + 48) _ rfl rfl (by omega) HLN.out ?_; intro v5 w5 htw; have HTW := Lib.hid htw; clear htw))
            have HR : Hid (r < 10) := hr
            clear hr
            go_loop [5] (fun vn => ∃ k, k ≤ n ∧ vn = .int .i64 ((k : Nat) : Int) ∧ Hid (CutAt M k)) (fun v => (intOf v).toNat)
            case atStart => exact ⟨n, Nat.le_refl _, rfl, HCM⟩
            case round =>
              obtain ⟨k, hk, rfl, HCA⟩ := hrel
              by_cases hgo : 0 < k ∧ M.getD (k - 1) 0 = 0
              · obtain ⟨hk0, hz⟩ := hgo
                have hk1 : k - 1 < M.length := by rw [HML.out]; omega
                have hc := HTW.out.dig.cell (k - 1) hk1
                rw [getD_lt hk1] at hz
                rw [hz] at hc
                have hgol : gd < w5.heap.size := (HTW.out.dig.own.lt gd rfl).2
                have HCN : Hid (CutAt M (k - 1)) := by
                  refine ⟨by omega, fun i hi => ?_⟩
                  by_cases hik : i = k - 1
                  · subst hik; rw [getD_lt hk1]; exact hz
                  · exact HCA.out.2 i (by omega)
                clear hz hk1
                go_wp2
                go_round
                case rel => exact ⟨k - 1, by omega, by congr 1; omega, HCN⟩
                case measure => simp [intOf]; omega
              · have HKE := Lib.hid (HSP.out k HCA.out (by omega))
                have hgol : gd < w5.heap.size := (HTW.out.dig.own.lt gd rfl).2
                have hstop : ¬ 0 < k ∨ ∃ x : Nat, 0 < k ∧ w5.cell? ⟨gd, k - 1, none⟩ = some (.int .i64 (x : Int)) ∧ ((x : Int) == 0) = false := by
                  rcases Nat.eq_zero_or_pos k with h0 | h0
                  · exact .inl (by omega)
                  · right
                    have hk1 : k - 1 < M.length := by rw [HML.out]; omega
                    refine ⟨M[k - 1], h0, HTW.out.dig.cell (k - 1) hk1, ?_⟩
                    rw [getD_lt hk1] at hgo
                    rw [beq_eq_false_iff_ne]; omega
                have HREL : Hid (TwoOwn w w5 gd n0 cd M v5 (up (O ++ [r]))) := by show TwoOwn _ _ _ _ _ _ _ _; rw [up_snoc]; exact HTW
                have hkn0 : k ≤ n0 := by omega
                have HKN : Hid (k ≤ n0) := hkn0
                clear hgo
                rcases hstop with hdec | ⟨x, hk0, hcx, hx⟩
                all_goals
                  go_wp2
                  go_roundw
                  case rel => exact ⟨M, O ++ [r], k, rfl, HKN.out, HML, HMT, HCA, HKE, HDM, HREL⟩
                  case measure => rw [HREL.out.out.lenOf, HW.out.out.lenOf, up_len, up_len, List.length_append, List.length_singleton]; have := HOL.out; omega
          · have e1 : ((m + 1 : Nat) : Int) - 1 = (m : Int) := by omega
            have hmM : m < M.length := by omega
            have hcell := HP.out.dig.cell m hmM
            have hfz := HP.out.dig.frozen hml m
            have HSTO := Lib.hid fun d => HP.out.store hml m d
            have HTX := Lib.hid (HT.out.step hmM)
            have hx := HT.out.lt _ (List.getElem_mem hmM)
            have hgol : gd < wr.heap.size := (HP.out.dig.own.lt gd rfl).2
            generalize M[m] = x at *
            have hmn : m < n0 := by omega
            have HMN : Hid (m < n) := by show _ < _; omega
            rw [e1]
            clear e1 hmM hml hj
            go_wp2
            go_roundw
            case rel => exact ⟨m, (256 * r + x) % 10, M.set m ((256 * r + x) / 10), rfl, by go_num, by omega, by have := HMN.out; omega, HTX, HSTO.out _⟩
            case measure => simp [intOf]
end Go.Proofs.Ytfhkpkebiinglaa
