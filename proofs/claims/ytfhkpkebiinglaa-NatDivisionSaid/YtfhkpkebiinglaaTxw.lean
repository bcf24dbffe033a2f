/-
  The walk of Text.
-/
import Derived.Test.YtfhkpkebiinglaaText
namespace Go.Proofs.Ytfhkpkebiinglaa
open Go.RowKit

theorem ok_zero (a : ByteArray) (h : Ok a) : bval a = 0 ↔ a.size = 0 := by
  rw [← ok_len a h, ← digs_nil (B := 256) (by omega)]
  exact List.length_eq_zero_iff.symm
theorem Ap.lenOf {w0 w : World} {e : TypeId} {k : IntKind} {v : Value} {L : List Nat} (h : Ap w0 e k v L w) : lenOf v = L.length := by
  obtain ⟨ao, cap, rfl, _⟩ := own_slice h.own
  rfl
theorem up_get (D : List Nat) (i : Nat) (h : i < (up D).length) (h2 : i < D.length) : (up D)[i] = D[i] + 48 := by simp [up]
theorem dec_eq {N : Nat} (h : N ≠ 0) : dec N = strOfNums ((up (digs 10 N)).reverse.map fun d : Nat => (d : Int)) := by
  unfold dec up
  rw [if_neg h, ← List.map_reverse, List.map_map]
  rfl
theorem dec_zero : dec 0 = ⟨#[48]⟩ := rfl
theorem small_text (aa : Option Addr) (ca n : Nat) (A : List Nat) (hn : A.length = n) (d : Nat) (hA : ∀ x ∈ A, x < 4294967296) (hl : n ≤ 1000000) (hd : 0 < d) (hd2 : d < 4294967296) (z : Int) (hz : z = (d : Int)) (w : World) (rA : RowAt w .u32 aa ca A) :
    Calls Try.prog 78 #[.slice aa n ca, .int .u32 z] w fun e w' => ∃ ao m c, e = .returned (.tuple #[.slice ao m c, .int .u32 ((dval 4294967296 A % d : Nat) : Int)]) ∧ Hid ((digs 4294967296 (dval 4294967296 A / d)).length = m) ∧ Hid (w'.ownsRow w.heap.size 91 1 (.slice ao m c) m (cu .u32 (digs 4294967296 (dval 4294967296 A / d)))) ∧ Below w.heap.size w w' := by
  subst hn
  subst hz
  refine (small_any aa ca A d hA hl hd hd2 w rA).mono ?_
  rintro e w' ⟨v, rfl, ho, hb⟩
  obtain ⟨ao, cap, rfl, r⟩ := own_slice ho
  exact ⟨ao, _, cap, rfl, rfl, ho, hb⟩

set_option maxRecDepth 20000 in
set_option maxHeartbeats 400000 in
theorem Text_any (a : ByteArray) (w : World) (ha : a.size ≤ maxLen) :
    Calls Try.prog 40 #[.string a] w fun e w' => e = .returned (if Ok a then .tuple #[.string (dec (bval a)), .int .i64 0] else .tuple #[.string ⟨#[]⟩, .int .i64 2]) ∧ Below w.heap.size w w' := by
  have HM := Lib.hid fun t ht => may_one a w ha t ht
  by_cases hok : Ok a
  · have HM2 := Lib.hid (HM.out true (by simp [hok]))
    rw [if_pos hok]
    have hz : a.toList.isEmpty = decide (a.size = 0) := isEmpty_size a
    have h0 := ok_zero a hok
    by_cases ha0 : a.size = 0
    · have hR : Hid (dec (bval a) = ⟨#[48]⟩) := by show _ = _; rw [h0.2 ha0]; rfl
      have hz2 : a.toList.isEmpty = true := by rw [hz]; simp [ha0]
      have hz3 : a.toList = [] := (toList_nil a).2 ha0
      clear hz h0 hok ha HM
      go_enter Try.func40, Try.ntmps40
      go_wp2_with (go_at_call 58; refine HM2.out.mono ?_; rintro e w1 ⟨rfl, B1⟩)
      go_ret2
      exact ⟨by rw [hR.out]; rfl, B1⟩
    · have hz2 : a.toList.isEmpty = false := by rw [hz]; simp [ha0]
      have hz3 : ¬ a.toList = [] := fun h => ha0 ((toList_nil a).1 h)
      have hN0 : bval a ≠ 0 := fun e => ha0 (h0.1 e)
      have HA := Lib.hid fun w => open_row a hok.1 w
      have hNlt : Hid (bval a < 2 ^ (8 * a.size)) := by
        show _ < _
        have := bval_lt a
        rwa [show (256 : Nat) = 2 ^ 8 from rfl, ← Nat.pow_mul] at this
      have hsz := hok.1
      have HN0 := Lib.hid hN0
      clear hz h0 hok ha HM hN0
      go_enter Try.func40, Try.ntmps40
      go_wp2_with (first | (go_at_call 58; refine HM2.out.mono ?_; rintro e w1 ⟨rfl, B1⟩) | (go_at_call 60; with_reducible refine (HA.out _).mono ?_; rintro e w2 ⟨aa, ca, LA, rfl, RA, VA, SA, NA, B2⟩))
      have HB2 := Lib.hid (B1.on B2)
      have HL0 : Hid (LA ≠ [] → dval 4294967296 LA ≠ 0) := by
        intro _
        rw [VA.out]; exact HN0.out
      have HAW : Hid (Away (.slice none 0 0) w2 .u32 aa ca LA) := ⟨RA.out, fun hne => by obtain ⟨b, rfl, _, _⟩ := RA.out.cell 0 (List.length_pos_iff.2 hne); simp [Value.ownBlock]⟩
      have HTX : Hid (TextAt (bval a) [] 0 9 (dval 4294967296 LA)) := by rw [VA.out]; exact TextAt.start _
      clear RA VA B1 B2
      go_loopw [4, 5] (fun vo vl wr => ∃ D L aa n ca, vl = .slice aa n ca ∧ Hid (L.length = n) ∧ n ≤ 1000000 ∧ D.length ≤ 140000 ∧ Hid (∀ x ∈ L, x < 4294967296) ∧ Hid (L ≠ [] → dval 4294967296 L ≠ 0) ∧ Hid (TextAt (bval a) D 0 9 (dval 4294967296 L)) ∧ Hid (Ap w 5 .u8 vo (up D) wr) ∧ Hid (Away vo wr .u32 aa ca L)) (fun vo _ _ => 200000 - lenOf vo)
      case atStart => exact ⟨[], LA, aa, _, ca, rfl, rfl, by omega, by simp, SA, HL0, HTX, Ap.nil' 5 .u8 HB2.out, HAW⟩
      case round =>
        obtain ⟨D, L, al, n, cl, rfl, HLn, hn, hD, HLl, HLz, HT, HW, HAL⟩ := hrel
        clear HAW HTX HL0 HB2
        by_cases hn0 : n = 0
        · have hLe : L = [] := List.eq_nil_of_length_eq_zero (by rw [HLn.out, hn0])
          subst hn0
          have hDv : dval 10 D = bval a := by
            have := HT.out.val
            rw [hLe] at this
            simpa [dval] using this
          have HDv := Lib.hid hDv
          have HDl := Lib.hid HT.out.lt
          obtain ⟨ao, co, hvo, hro⟩ := own_slice HW.out.own
          subst hvo
          have HRO := Lib.hid hro
          have hmx := hro.max
          have hle := hro.le
          rw [up_len] at hle
          unfold maxLen at hmx
          have hul := up_len D
          rw [hul]
          have HCT : Hid (∀ k, CutAt D k → (k = 0 ∨ D.getD (k - 1) 0 ≠ 0) → k = (digs 10 (bval a)).length) := fun k h1 h2 => by rw [← HDv.out]; exact CutAt.stop (by omega) HDl.out h1 h2
          have HPOS : Hid (∀ k, CutAt D k → 0 < k) := fun k h1 => by
            rcases Nat.eq_zero_or_pos k with e | e
            · exfalso
              have := HCT.out k h1 (.inl e)
              rw [e] at this
              exact HN0.out ((digs_nil (by omega)).1 (List.eq_nil_of_length_eq_zero this.symm))
            · exact e
          have HTK := take_digs (B := 10) (by omega) D HDl.out
          rw [HDv.out] at HTK
          have HTK2 := Lib.hid HTK
          have hD0 : 0 < D.length := HPOS.out D.length ⟨Nat.le_refl _, fun i hi => by simp [List.getD, hi]⟩
          clear hDv hro HTK hul HLz HLn HAL HLl hLe hNlt
          go_wp2
          go_loop [7] (fun v => ∃ k, k ≤ D.length ∧ 0 < k ∧ v = .int .i64 ((k : Nat) : Int) ∧ Hid (CutAt D k)) (fun v => (intOf v).toNat)
          case atStart => exact ⟨D.length, Nat.le_refl _, hD0, rfl, ⟨Nat.le_refl _, fun i hi => by simp [List.getD, hi]⟩⟩
          case round =>
            obtain ⟨k, hk, hk0, rfl, HCA⟩ := hrel
            have hk1 : k - 1 < D.length := by omega
            obtain ⟨bo, rfl, hbo, hco⟩ := HRO.out.cell (k - 1) (by rw [up_len]; exact hk1)
            rw [up_get D (k - 1) (by rw [up_len]; exact hk1) hk1] at hco
            have hlt10 := HDl.out _ (List.getElem_mem hk1)
            by_cases hz : D[k - 1] = 0
            · have HCN : CutAt D (k - 1) := by
                refine ⟨by omega, fun i hi => ?_⟩
                by_cases hik : i = k - 1
                · subst hik; rw [getD_lt hk1]; exact hz
                · exact HCA.out.2 i (by omega)
              have hkp := HPOS.out _ HCN
              have HCN2 := Lib.hid HCN
              rw [hz] at hco
              clear HCN hz
              go_wp2
              go_round
              case rel => exact ⟨k - 1, by omega, hkp, by congr 1; omega, HCN2⟩
              case measure => simp [intOf]; omega
            · have HK := Lib.hid (HCT.out k HCA.out (.inr (by rw [getD_lt hk1]; exact hz)))
              generalize D[k - 1] = x at *
              have hx48 : ((x : Int) + 48 == 48) = false := by rw [beq_eq_false_iff_ne]; omega
              clear hz
              have HX : Hid (x < 10) := hlt10
              clear hlt10
              have hT : (up D).take k = up (digs 10 (bval a)) := by
                rw [HK.out, ← HTK2.out]
                simp [up, List.map_take]
              have HTT := Lib.hid hT
              clear hT
              have HRW := Lib.hid (HRO.out)
              go_wp2_with (first | (at_make; refine wpList_make_ap rfl _ _ 75 rfl Try.underlying75 info5 (by omega) w HW.out.below 0 k _ _ .i64 .i64 rfl rfl rfl rfl (by omega) (by omega) ?_; intro w7 hap7 hs7 hb7))
              have HAP7 := Lib.hid hap7
              have HAW7 : Hid (Away (.slice (some ⟨wr.heap.size, 0, none⟩) 0 k) w7 .u8 (some ⟨bo, 0, none⟩) co (up D)) := ⟨HRW.out.below hb7 (Nat.le_refl _), fun _ e => by
                have : wr.heap.size = bo := by simpa [Value.ownBlock] using e
                omega⟩
              clear hap7 hs7 hb7 HW
              obtain ⟨wo, rfl⟩ : ∃ wo : World, wo = wr := ⟨_, rfl⟩
              go_loopw [8, 9] (fun vt vi wi => ∃ j, j ≤ k ∧ vi = .int .i64 ((j : Nat) - 1 : Int) ∧ Hid (Ap w 5 .u8 vt (((up D).take k).drop j).reverse wi) ∧ Hid (Away vt wi .u8 (some ⟨bo, 0, none⟩) co (up D))) (fun _ vi _ => (intOf vi + 1).toNat)
              case atStart => exact ⟨k, Nat.le_refl _, rfl, by show Ap _ _ _ _ _ _; rw [List.drop_of_length_le (by rw [List.length_take]; omega)]; exact HAP7.out, HAW7⟩
              case round =>
                obtain ⟨j, hj, rfl, HP, HQ⟩ := hrel
                clear HAP7 HAW7
                rcases j with _ | m
                · have hl : (((up D).take k).drop 0).reverse = (up (digs 10 (bval a))).reverse := by rw [List.drop_zero, HTT.out]
                  rw [hl] at HP
                  obtain ⟨gt, ct, hvt, _, hgt⟩ := HP.out.own.form (by rw [List.length_reverse, up_len, ← HK.out]; exact hk0)
                  subst hvt
                  have hlen : (up (digs 10 (bval a))).reverse.length = k := by rw [List.length_reverse, up_len, ← HK.out]
                  have HOW := Lib.hid HP.out.own
                  have HDC := Lib.hid (dec_eq HN0.out)
                  generalize (up (digs 10 (bval a))).reverse = Z at *
                  have HCV : Hid ((convert 75 9 (.slice (some ⟨gt, 0, none⟩) Z.length ct)).run Try.prog wr = .ok (.string (dec (bval a))) wr) := by
                    show _ = _
                    rw [HDC.out]
                    refine run_convert_bytes_arg wr 75 5 Try.underlying75 Try.underlying5 gt 0 _ ct _ (by simp) ?_ 9 Try.underlying9
                    intro i hi
                    obtain ⟨b, e, _, hc⟩ := (own_row HOW.out).2.cell i hi
                    cases e
                    rw [Nat.zero_add, hc]
                    simp [List.getD, hi]
                  rw [hlen] at HCV ⊢
                  clear hl hlen
                  go_wp2_with (rw [HCV.out])
                  go_ret2
                  exact ⟨rfl, HP.out.below⟩
                · have hm : m < (up D).length := by rw [up_len]; omega
                  have hmk : m < ((up D).take k).length := by rw [List.length_take]; omega
                  obtain ⟨b2, hb2, hlt2, hc2⟩ := HQ.out.row.cell m hm
                  cases hb2
                  have hlist : (((up D).take k).drop m).reverse = (((up D).take k).drop (m + 1)).reverse ++ [(up D)[m]] := by
                    rw [List.drop_eq_getElem_cons hmk, List.reverse_cons, List.getElem_take]
                  have HLI := Lib.hid hlist
                  have hi1 : ((m + 1 : Nat) : Int) - 1 = (m : Int) := by omega
                  have HLN : Hid ((((up D).take k).drop (m + 1)).reverse.length ≤ 10000000) := by show _ ≤ _; simp; omega
                  have hml : m < D.length := by omega
                  generalize (up D)[m] = y at *
                  rw [hi1]
                  clear hlist hi1 hmk hm
                  go_wp2_with (first | (at_builtin; refine wpList_append_two rfl _ _ 75 rfl Try.underlying75 info5 rfl (by omega) w HP.out y _ rfl rfl rfl HLN.out ?_; intro v5 w5 hap5 haw5))
                  go_roundw
                  case rel => exact ⟨m, by omega, rfl, by show Ap _ _ _ _ _ _; rw [HLI.out]; exact hap5, haw5 _ _ _ _ HQ.out⟩
                  case measure => simp [intOf]
        · have hgt : decide ((0 : Int) < (n : Int)) = true := by simp; omega
          have hlne : L ≠ [] := by intro e; apply hn0; rw [← HLn.out, e]; rfl
          have hDl := HT.out.len (HLz.out hlne) hNlt.out
          have HS := Lib.hid fun W r => small_text al cl n L HLn.out 1000000000 HLl.out hn (by omega) (by omega) 1000000000 rfl W r
          have HT1 := Lib.hid HT.out.next
          have hd0 : dval 4294967296 L % 1000000000 < 1000000000 := Nat.mod_lt _ (by omega)
          have HL2 := Lib.hid (digs_lt (B := 4294967296) (by omega) (dval 4294967296 L / 1000000000))
          have HV2 := Lib.hid (dval_digs (B := 4294967296) (by omega) (dval 4294967296 L / 1000000000))
          have HN2 : Hid ((digs 4294967296 (dval 4294967296 L / 1000000000)).length ≤ n) := by
            show _ ≤ _
            rw [digs_len (by omega), ← HLn.out]
            exact Nat.lt_of_le_of_lt (Nat.div_le_self _ _) (dval_lt _ _ HLl.out)
          have HZ2 : Hid (digs 4294967296 (dval 4294967296 L / 1000000000) ≠ [] → dval 4294967296 L / 1000000000 ≠ 0) := fun h e => h ((digs_nil (by omega)).2 e)
          generalize dval 4294967296 L / 1000000000 = M at *
          generalize dval 4294967296 L % 1000000000 = d0 at *
          generalize digs 4294967296 M = L2 at *
          clear hlne
          go_wp2_with (first | (go_at_call 78; refine (HS.out _ HAL.out.row).mono ?_; rintro e w3 ⟨a2, m2, c2, rfl, HM2, HO2, B3⟩))
          have HW3 := Lib.hid (HW.out.on B3)
          have HAW3 := Lib.hid (Away.of_gave HW.out HO2.out)
          clear B3 HO2 HS
          obtain ⟨wo, rfl⟩ : ∃ wo : World, wo = wr := ⟨_, rfl⟩
          go_loopw [4, 6, 26] (fun vo2 vd vi wi => ∃ E d i, vi = .int .i64 ((i : Nat) : Int) ∧ vd = .int .u32 ((d : Nat) : Int) ∧ d < 1000000000 ∧ i ≤ 9 ∧ Hid (E.length = D.length + i) ∧ Hid (TextAt (bval a) E d i M) ∧ Hid (Ap w 5 .u8 vo2 (up E) wi) ∧ Hid (Away vo2 wi .u32 a2 c2 L2)) (fun _ _ vi _ => 9 - (intOf vi).toNat)
          case atStart => exact ⟨D, d0, 0, rfl, rfl, hd0, by omega, rfl, HT1, HW3, HAW3⟩
          case round =>
            obtain ⟨E, d, i, rfl, rfl, hd, hi, HEl, HT4, HW4, HA4⟩ := hrel
            by_cases hi9 : i < 9
            · have hlen : (up E).length ≤ 10000000 := by rw [up_len, HEl.out]; omega
              have HLN := Lib.hid hlen
              have HST := Lib.hid (HT4.out.step hi9)
              clear hlen
              go_wp2_with (first | (at_builtin; refine wpList_append_two rfl _ _ 75 rfl Try.underlying75 info5 rfl (by omega) w HW4.out (d % 10 + 48) _ rfl rfl (by omega) HLN.out ?_; intro v5 w5 hap5 haw5))
              go_roundw
              case rel => exact ⟨E ++ [d % 10], d / 10, i + 1, by go_num, rfl, by omega, by omega, by show _ = _; rw [List.length_append, HEl.out]; simp; omega, HST, by show Ap _ _ _ _ _ _; rw [up_snoc]; exact hap5, haw5 _ _ _ _ HA4.out⟩
              case measure => simp [intOf]; omega
            · have hie : i = 9 := by omega
              subst hie
              have hd1 := HT4.out.low
              have hd2 : d = 0 := by simp at hd1; exact hd1
              subst hd2
              have HLV : Hid (TextAt (bval a) E 0 9 (dval 4294967296 L2)) := by rw [HV2.out]; exact HT4
              have HZ3 : Hid (L2 ≠ [] → dval 4294967296 L2 ≠ 0) := by rw [HV2.out]; exact HZ2
              clear hd1
              go_wp2
              go_roundw
              case rel => exact ⟨E, L2, a2, m2, c2, rfl, HM2, by have := HN2.out; rw [HM2.out] at this; omega, by have := HEl.out; omega, HL2, HZ3, HLV, HW4, HA4⟩
              case measure => rw [HW4.out.lenOf, HW.out.lenOf, up_len, up_len, HEl.out]; omega
  · have HM2 := Lib.hid (HM.out false (by simp only [hok, decide_false]))
    rw [if_neg hok]
    clear hok HM ha
    go_enter Try.func40, Try.ntmps40
    go_wp2_with (go_at_call 58; refine HM2.out.mono ?_; rintro e w1 ⟨rfl, B1⟩)
    go_ret2
    exact ⟨rfl, B1⟩
end Go.Proofs.Ytfhkpkebiinglaa
