/-
  The reference's Text: the plain laws and the memory.
-/
import Derived.Test.YtfhkpkebiinglaaRdr
import Derived.Test.YtfhkpkebiinglaaKn
namespace Go.Proofs.Ytfhkpkebiinglaa
open Go.RowKit

/-- A row divided by ten, from its top down to j. -/
structure TenAt (A : List Nat) (j r : Nat) (L : List Nat) : Prop where
  len : L.length = A.length
  lt : ∀ x ∈ L, x < 256
  low : r < 10
  rest : L.take j = A.take j
  val : dval 256 (A.drop j) = 10 * dval 256 (L.drop j) + r
theorem CutAt.drop0 {L : List Nat} {n : Nat} (hL : ∀ d ∈ L, d < 256) (h : CutAt L n) : dval 256 (L.drop n) = 0 := by
  rw [dval_drop L hL, Nat.div_eq_of_lt (dval_small (by omega) L hL n h.2)]
theorem TenAt.start {A : List Nat} {n : Nat} (hA : ∀ d ∈ A, d < 256) (h : CutAt A n) : TenAt A n 0 A := ⟨rfl, hA, by omega, rfl, by rw [h.drop0 hA]⟩
theorem TenAt.get {A : List Nat} {m r : Nat} {L : List Nat} (h : TenAt A (m + 1) r L) (hm : m < L.length) : L.getD m 0 = A.getD m 0 := by
  have h1 := congrArg (fun l => l.getD m 0) h.rest
  have hA : m < A.length := by rw [← h.len]; exact hm
  simp [List.getD] at h1
  simpa [List.getD] using h1
theorem TenAt.step {A : List Nat} {m r : Nat} {L : List Nat} (h : TenAt A (m + 1) r L) (hm : m < L.length) :
    TenAt A m ((256 * r + L[m]) % 10) (L.set m ((256 * r + L[m]) / 10)) := by
  have hg := h.get hm
  have hlt := h.lt _ (List.getElem_mem hm)
  have hlow := h.low
  have hA : m < A.length := by rw [← h.len]; exact hm
  refine ⟨by rw [List.length_set]; exact h.len, mem_set_lt h.lt (by omega), Nat.mod_lt _ (by omega), ?_, ?_⟩
  · have h1 := congrArg (List.take m) h.rest
    rw [List.take_take, List.take_take, Nat.min_eq_left (by omega)] at h1
    rw [List.take_set_of_le (by omega)]
    exact h1
  · rw [dval_drop_at 256 A m, dval_drop_at 256 (L.set m _) m]
    have e1 : (L.set m ((256 * r + L[m]) / 10)).drop (m + 1) = L.drop (m + 1) := by rw [List.drop_set_of_lt (by omega)]
    have e2 : (L.set m ((256 * r + L[m]) / 10)).getD m 0 = (256 * r + L[m]) / 10 := by simp [List.getD, hm]
    rw [e1, e2, ← hg, getD_lt hm, h.val]
    omega
theorem TenAt.leave {A : List Nat} {r : Nat} {L : List Nat} (h : TenAt A 0 r L) : r = dval 256 A % 10 ∧ dval 256 L = dval 256 A / 10 := by
  have hv := h.val
  have hlow := h.low
  rw [List.drop_zero, List.drop_zero] at hv
  omega
theorem TenAt.cut {A : List Nat} {r n : Nat} {L : List Nat} (h : TenAt A 0 r L) (hA : ∀ d ∈ A, d < 256) (hc : CutAt A n) : CutAt L n := by
  have h1 := dval_small (by omega) A hA n hc.2
  have h2 := h.leave.2
  exact ⟨by rw [h.len]; exact hc.1, dval_above L h.lt n (by omega)⟩
theorem digs_ten {V : Nat} {O : List Nat} {N : Nat} (h : O ++ digs 10 V = digs 10 N) (hV : V ≠ 0) : (O ++ [V % 10]) ++ digs 10 (V / 10) = digs 10 N := by
  rw [digs_pos (by omega) hV] at h
  rw [List.append_assoc]; exact h
/-- A row turned round so far. -/
structure RevAt (T : List Nat) (i : Nat) (M : List Nat) : Prop where
  len : M.length = T.length
  half : 2 * i ≤ T.length
  at_ : ∀ x, x < T.length → M.getD x 0 = if x < i ∨ T.length - 1 - i < x then T.getD (T.length - 1 - x) 0 else T.getD x 0
theorem RevAt.start (T : List Nat) : RevAt T 0 T := ⟨rfl, by omega, fun x hx => by rw [if_neg (by omega)]⟩
theorem RevAt.step {T M : List Nat} {i j : Nat} (h : RevAt T i M) (hj : j = T.length - 1 - i) (hij : i < j) (hi : i < M.length) (hjl : j < M.length) : RevAt T (i + 1) ((M.set i M[j]).set j M[i]) := by
  refine ⟨by rw [List.length_set, List.length_set]; exact h.len, by omega, fun x hx => ?_⟩
  have hl := h.len
  have e1 := h.at_ i (by omega)
  have e2 := h.at_ j (by omega)
  rw [if_neg (by omega), getD_lt hi] at e1
  rw [if_neg (by omega), getD_lt hjl] at e2
  have e3 := h.at_ x hx
  have hxM : x < M.length := by omega
  have hx2 : x < ((M.set i M[j]).set j M[i]).length := by rw [List.length_set, List.length_set]; exact hxM
  rw [getD_lt hx2, List.getElem_set]
  by_cases h1 : j = x
  · rw [if_pos h1, if_pos (by omega), e1]
    congr 1; omega
  · rw [if_neg h1, List.getElem_set]
    by_cases h2 : i = x
    · rw [if_pos h2, if_pos (by omega), e2]
      congr 1; omega
    · rw [if_neg h2, ← getD_lt hxM, e3]
      by_cases h3 : x < i ∨ T.length - 1 - i < x
      · rw [if_pos h3, if_pos (by omega)]
      · rw [if_neg h3, if_neg (by omega)]
theorem RevAt.leave {T M : List Nat} {i : Nat} (h : RevAt T i M) (hi : ¬ i < T.length - 1 - i) : M = T.reverse := by
  have hh := h.half
  apply List.ext_getElem (by rw [List.length_reverse]; exact h.len)
  intro x h1 h2
  have hx : x < T.length := by rw [← h.len]; exact h1
  have e := h.at_ x hx
  rw [getD_lt h1] at e
  rw [e, List.getElem_reverse]
  by_cases h3 : x < i ∨ T.length - 1 - i < x
  · rw [if_pos h3, getD_lt]
  · rw [if_neg h3, getD_lt hx]
    congr 1; omega
/-- Two rows of the call's own in blocks of their own. -/
structure TwoOwn (w0 w : World) (gd n cd : Nat) (L : List Nat) (vo : Value) (D : List Nat) : Prop where
  dig : Ap w0 3 .i64 (.slice (some ⟨gd, 0, none⟩) n cd) L w
  out : Ap w0 5 .u8 vo D w
  far : vo.ownBlock ≠ some gd
theorem TwoOwn.append {P : Program} {ops : Array Oper} {rest : List Oper} {o : Oper} {a : Act} {Q : Exit → Act → World → Prop} (hgd : o.guard = none) (s x : Operand) (t : TypeId)
    (ho : o.op = .call { callee := .builtin .append, args := #[s, x], argTypes := #[t, t] })
    {z : Value} {bytes : Nat} (ht : P.underlying t = some (.slice 5)) (hinfo : (P.info? 5).map (fun i => (i.zero, i.size, i.bytes)) = some (some z, 1, bytes)) (hz1 : z.cells.size = 1) (hb : bytes ≤ 8)
    (w0 : World) {v : Value} {L : List Nat} {W : World} {gd n cd : Nat} {A : List Nat} (htw : TwoOwn w0 W gd n cd A v L) (d : Nat) (y : Int) (hs : a.eval s = v) (hx : a.eval x = .slice (some ⟨W.heap.size, 0, none⟩) 1 1) (hy : y = (d : Int)) (hlen : L.length ≤ 10000000)
    (h : ∀ v' w', TwoOwn w0 w' gd n cd A v' (L ++ [d]) → wpList P ops Q rest (a.put o.dst v') w') : wpList P ops Q (o :: rest) a (W.alloc (.cells #[.int .u8 y] 5)) := by
  obtain ⟨i0, hi0, hz0, hi1, hi2⟩ := info_parts hinfo
  subst hy
  have hap := htw.out
  refine wpList_append_lies _ hgd s x t ho w0.heap.size 5 i0 z 1 bytes ht hi0 hz0 hi1 hi2 hz1 (by omega) v L.length (cu .u8 L) hs (hap.own.alloc _) ⟨W.heap.size, 0, none⟩ 1 1 [.int .u8 (d : Int)] hx rfl ?_ ?_ (by omega) ?_ ?_ ?_ (W.heap.size + 1) (by simp) ?_
  · exact World.news_of_block (cs := #[.int .u8 (d : Int)]) (t := 5) (fr := (0, 0)) (heap_alloc_new W _)
  · intro u hu; rw [List.mem_singleton.1 hu]; rfl
  · unfold maxLen; omega
  · have : (L.length + 1) * bytes ≤ (L.length + 1) * 8 := Nat.mul_le_mul_left _ hb
    omega
  · have := hap.below.size; simp; omega
  · intro g cap w' h1 h2 h3 h4
    have hbw : Below w0.heap.size w0 w' := (hap.below.alloc hap.below.size _).grown h2 (Nat.le_trans hap.below.size (by simp)) fun k' hk' => (hap.own.lt k' hk').1
    have hgdl := (htw.dig.own.lt gd rfl).2
    refine h _ w' ⟨⟨⟨htw.dig.own.1, ?_⟩, hbw⟩, ⟨?_, hbw⟩, ?_⟩
    · rcases htw.dig.own.2 with k2 | ⟨g2, cap2, cur2, hv2, hB2, hg2, k1⟩
      · exact .inl k2
      · simp only [Value.slice.injEq, Option.some.injEq, Addr.mk.injEq] at hv2
        obtain ⟨⟨rfl, _⟩, hnl, rfl⟩ := hv2
        refine .inr ⟨gd, cd, cur2, by rw [hnl], hB2, ?_, k1⟩
        rw [h2.block gd (by simp; omega) (fun e => htw.far e.symm)]
        rw [← hg2]
        exact Below.heap_alloc W _ gd hgdl
    · rw [List.length_append, List.length_singleton]
      have e1 : cu .u8 (L ++ [d]) = cu .u8 L ++ [.int .u8 (d : Int)] := by simp [cu]
      rw [e1]; exact h1
    · intro e0
      have hg : g = gd := by simpa [Value.ownBlock] using e0
      rcases h3 with h3 | h3
      · exact htw.far (by rw [h3, hg])
      · omega
theorem TwoOwn.store {w0 w : World} {gd n cd : Nat} {L : List Nat} {vo : Value} {D : List Nat} (h : TwoOwn w0 w gd n cd L vo D) (hn : L.length = n) (j d : Nat) : TwoOwn w0 (w.setCell ⟨gd, j, none⟩ (.int .i64 (d : Nat))) gd n cd (L.set j d) vo D :=
  have hs := h.dig.store hn j d
  ⟨hs, ⟨ownsRow_setCell_other h.out.own h.far _, hs.below⟩, h.far⟩
set_option maxRecDepth 20000 in
theorem digits_own (s : ByteArray) (hs : s.size ≤ 1000000) (w : World) :
    Calls Try.prog 71 #[.string s] w fun e w' => ∃ ao n cap, e = .returned (.slice ao n cap) ∧ Hid ((bytesR s).length = n) ∧ Hid (Ap w 3 .i64 (.slice ao n cap) (bytesR s) w') := by
  go_enter Try.func71, Try.ntmps71
  go_wp2
  go_loopw [3, 4] (fun vo vi wr => ∃ i, i ≤ s.size ∧ vi = .int .i64 (((s.size - i : Nat) : Int) - 1) ∧ Hid (Ap w 3 .i64 vo ((bytesR s).take i) wr)) (fun _ vi _ => (intOf vi + 1).toNat)
  case atStart => exact ⟨0, Nat.zero_le _, by congr 1, Ap.nil _ _ _⟩
  case round =>
    obtain ⟨i, hi, rfl, HW⟩ := hrel
    by_cases hlt : i < s.size
    · obtain ⟨m, hm⟩ : ∃ m, m = s.size - 1 - i := ⟨_, rfl⟩
      have hms : m < s.size := by omega
      have e1 : ((s.size - i : Nat) : Int) - 1 = (m : Int) := by omega
      have HT := Lib.hid (bytesR_take s i hlt)
      rw [bytesR_get s i _ m hm hms] at HT
      have hmi : s.size - (i + 1) = m := by omega
      have HMI := Lib.hid hmi
      have HLN : Hid (((bytesR s).take i).length ≤ 10000000) := by show _ ≤ _; rw [List.length_take, bytesR_len]; omega
      have HE := Lib.hid e1
      rw [e1]
      clear hm hmi e1
      go_wp2_with (first | (at_builtin; refine wpList_append_one rfl _ _ 84 rfl Try.underlying84 info3 rfl (by omega) w HW.out s[m].toNat _ rfl rfl (by have := UInt8.toNat_lt s[m]; unfold wrap64; omega) HLN.out ?_; intro v1 w2 hap1))
      go_roundw
      case rel => exact ⟨i + 1, by omega, by rw [HMI.out], by show Ap _ _ _ _ _ _; rw [HT.out]; exact hap1⟩
      case measure => simp [intOf]
    · have hie : i = s.size := by omega
      subst hie
      rw [List.take_of_length_le (by rw [bytesR_len]; exact Nat.le_refl _)] at HW
      have e0 : ((s.size - s.size : Nat) : Int) - 1 = -1 := by omega
      rw [e0]
      obtain ⟨ao, cap, hv, hr⟩ := own_slice HW.out.own
      subst hv
      clear hr e0
      generalize hn : (bytesR s).length = n at HW ⊢
      have HL : Hid ((bytesR s).length = n) := hn
      clear hn
      go_wp2
      go_ret
      exact ⟨ao, n, cap, rfl, HL, HW⟩

end Go.Proofs.Ytfhkpkebiinglaa
