/-
  The law's list: a slice of any place.
-/
import Derived.Test.YtfhkpkebiinglaaRsm
import Derived.Deep.AppendLies
namespace Go.Proofs.Ytfhkpkebiinglaa
open Go.RowKit

theorem refused_at (p : Addr) (cap : Nat) (S : List ByteArray) (w : World) (hS : ∀ s ∈ S, s.size ≤ maxLen) (hle : S.length ≤ cap) (hm : cap ≤ maxLen) (h : ∀ i (h : i < S.length), w.cell? (p.add i) = some (.string S[i])) :
    Calls Try.prog 21 #[.slice (some p) S.length cap] w fun e w' => e = .returned (.bool (!decide (∀ s ∈ S, Ok s))) ∧ w = w' := by
  have HC := Lib.hid h
  have HS := Lib.hid hS
  unfold maxLen at hm
  clear h hS
  go_enter Try.func21, Try.ntmps21
  go_wp2
  go_loop [3] (fun v => ∃ i, i ≤ S.length ∧ v = .int .i64 ((i : Nat) : Int) ∧ ∀ j (hj : j < S.length), j < i → Ok S[j]) (fun v => S.length - (intOf v).toNat)
  case atStart => exact ⟨0, Nat.zero_le _, rfl, fun j _ h => absurd h (Nat.not_lt_zero _)⟩
  case round =>
    obtain ⟨i, hi, rfl, hok⟩ := hrel
    have HK := Lib.hid hok
    clear hok
    by_cases hlt : i < S.length
    · have hcell := HC.out i hlt
      have HM := Lib.hid (refMay_any S[i] w (HS.out _ (List.getElem_mem hlt)))
      have HB := Lib.hid (fun (h : ¬ Ok S[i]) => (by simp only [decide_eq_false_iff_not]; exact fun hh => h (hh _ (List.getElem_mem hlt)) : decide (∀ s ∈ S, Ok s) = false))
      have HG := Lib.hid (fun (h : Ok S[i]) j (hj : j < S.length) (h2 : j < i + 1) => (by
        by_cases e : j = i
        · subst e; exact h
        · exact HK.out j hj (by omega) : Ok S[j]))
      generalize S[i] = s at hcell HM HB HG
      by_cases hs : Ok s
      · have HG2 := Lib.hid (HG.out hs)
        rw [decide_eq_true hs] at HM
        clear hs
        go_wp2_with (go_at_call 62; refine HM.out.mono ?_; rintro e w' ⟨rfl, rfl⟩)
        all_goals (go_round; (case rel => exact ⟨i + 1, by omega, by go_num, HG2.out⟩); (case measure => simp [intOf]; omega))
      · have HB2 := Lib.hid (HB.out hs)
        rw [decide_eq_false hs] at HM
        clear hs
        go_wp2_with (go_at_call 62; refine HM.out.mono ?_; rintro e w' ⟨rfl, rfl⟩)
        go_ret
        exact ⟨by rw [HB2.out]; rfl, rfl⟩
    · have hie : i = S.length := by omega
      subst hie
      have hT : decide (∀ s ∈ S, Ok s) = true := by
        rw [decide_eq_true_eq]
        intro s hs
        obtain ⟨j, hj, rfl⟩ := List.getElem_of_mem hs
        exact HK.out j hj hj
      have HT := Lib.hid hT
      clear hT
      go_wp2
      go_ret
      exact ⟨by rw [HT.out]; rfl, rfl⟩

theorem info22 : (Try.prog.info? 22).map (fun i => (i.zero, i.size, i.bytes)) = some (some (.string ⟨#[]⟩), 1, 16) := by kernel_rfl
theorem info9 : (Try.prog.info? 9).map (fun i => (i.zero, i.size, i.bytes)) = some (some (.string ⟨#[]⟩), 1, 16) := by kernel_rfl
/-- A row of values of the call's own; of old memory nothing has turned. -/
structure VOwn (w0 : World) (e : TypeId) (v : Value) (V : List Value) (w : World) : Prop where
  own : w.ownsRow w0.heap.size e 1 v V.length V
  below : Below w0.heap.size w0 w
theorem VOwn.nil {w0 w : World} (e : TypeId) (h : Below w0.heap.size w0 w) : VOwn w0 e (.slice none 0 0) [] w := ⟨World.ownsRow_nil _ _ _ _, h⟩
theorem VOwn.push {P : Program} {ops : Array Oper} {rest : List Oper} {o : Oper} {a : Act} {Q : Exit → Act → World → Prop} (hgd : o.guard = none) (s x : Operand) (t : TypeId)
    (ho : o.op = .call { callee := .builtin .append, args := #[s, x], argTypes := #[t, t] })
    {e : TypeId} {z : Value} (ht : P.underlying t = some (.slice e)) (hinfo : (P.info? e).map (fun i => (i.zero, i.size, i.bytes)) = some (some z, 1, 16)) (hz1 : z.cells.size = 1)
    (w0 : World) {v : Value} {V : List Value} {W : World} (hap : VOwn w0 e v V W) (u : Value) (hu : u.oneCell' = true) (hs : a.eval s = v) (hx : a.eval x = .slice (some ⟨W.heap.size, 0, none⟩) 1 1) (hlen : V.length * 16 ≤ 140737488355312)
    (h : ∀ g cap w', VOwn w0 e (.slice (some ⟨g, 0, none⟩) (V.length + 1) cap) (V ++ [u]) w' → g < w'.heap.size → wpList P ops Q rest (a.put o.dst (.slice (some ⟨g, 0, none⟩) (V.length + 1) cap)) w') : wpList P ops Q (o :: rest) a (W.alloc (.cells #[u] e)) := by
  obtain ⟨i0, hi0, hz0, hi1, hi2⟩ := info_parts hinfo
  refine wpList_append_lies _ hgd s x t ho w0.heap.size e i0 z 1 16 ht hi0 hz0 hi1 hi2 hz1 (by omega) v V.length V hs (hap.own.alloc _) ⟨W.heap.size, 0, none⟩ 1 1 [u] hx rfl ?_ ?_ (by omega) ?_ ?_ ?_ (W.heap.size + 1) (by simp) ?_
  · exact World.news_of_block (cs := #[u]) (t := e) (fr := (0, 0)) (heap_alloc_new W _)
  · intro y hy; rw [List.mem_singleton.1 hy]; exact hu
  · unfold maxLen; omega
  · omega
  · have := hap.below.size; simp; omega
  · intro g cap w' h1 h2 _ h4
    refine h g cap w' ⟨?_, ?_⟩ h4
    · rw [List.length_append, List.length_singleton]; exact h1
    · exact (hap.below.alloc hap.below.size _).grown h2 (Nat.le_trans hap.below.size (by simp)) fun k' hk' => (hap.own.lt k' hk').1
/-- Append of a whole slice onto nil. -/
theorem VOwn.copy {P : Program} {ops : Array Oper} {rest : List Oper} {o : Oper} {a : Act} {Q : Exit → Act → World → Prop} (hgd : o.guard = none) (s x : Operand) (t : TypeId)
    (ho : o.op = .call { callee := .builtin .append, args := #[s, x], argTypes := #[t, t] })
    {e : TypeId} {z : Value} (ht : P.underlying t = some (.slice e)) (hinfo : (P.info? e).map (fun i => (i.zero, i.size, i.bytes)) = some (some z, 1, 16)) (hz1 : z.cells.size = 1)
    (w0 : World) {W : World} (hb : Below w0.heap.size w0 W) (hs : a.eval s = .slice none 0 0) (p : Addr) (c : Nat) (V : List Value) (hV : ∀ u ∈ V, u.oneCell' = true) (hx : a.eval x = .slice (some p) V.length c) (hcell : ∀ i (h : i < V.length), W.cell? (p.add i) = some V[i]) (hlen : V.length * 16 ≤ 140737488355312)
    (h : ∀ v' w', VOwn w0 e v' V w' → wpList P ops Q rest (a.put o.dst v') w') : wpList P ops Q (o :: rest) a W := by
  obtain ⟨i0, hi0, hz0, hi1, hi2⟩ := info_parts hinfo
  refine wpList_append_own _ hgd s x t ho w0.heap.size e i0 z 1 16 ht hi0 hz0 hi1 hi2 hz1 (by omega) (.slice none 0 0) 0 [] hs (World.ownsRow_nil _ _ _ _) p V.length c V hx (by omega) ?_ hV ?_ ?_ hb.size ?_
  · intro j u hu
    obtain ⟨hj, he⟩ := List.getElem?_eq_some_iff.1 hu
    rw [hcell j hj, he]
  · unfold maxLen; omega
  · omega
  · intro v' w' h1 h2 _
    refine h v' w' ⟨?_, hb.grown h2 hb.size fun k hk => by cases hk⟩
    simpa using h1
theorem VOwn.row {w0 w : World} {e : TypeId} {g n cap : Nat} {V : List Value} (h : VOwn w0 e (.slice (some ⟨g, 0, none⟩) n cap) V w) : V.length ≤ cap ∧ cap ≤ maxLen ∧ w0.heap.size ≤ g ∧ g < w.heap.size ∧ ∀ i (hi : i < V.length), w.cell? ⟨g, i, none⟩ = some V[i] := by
  have h0 := h.own
  rcases h0.2 with ⟨k1, _⟩ | ⟨g2, cap2, cur2, hv2, hB2, hg2, k1, k2, k3, k4⟩
  · cases k1
  · cases hv2
    refine ⟨k1, k2, hB2, (Array.getElem?_eq_some_iff.1 hg2).1, fun i hi => ?_⟩
    have := h0.cells (g := g) rfl i V[i] (by simp [hi])
    rwa [Addr.add_lit, Nat.zero_add] at this
theorem VOwn.front {w0 w w1 : World} {e : TypeId} {g n cap : Nat} {V U : List Value} (h : VOwn w0 e (.slice (some ⟨g, 0, none⟩) n cap) (V ++ U) w) (hb : Below w.heap.size w w1) : VRow w1 (some ⟨g, 0, none⟩) cap V := by
  obtain ⟨h1, h2, _, h4, h5⟩ := h.row
  rw [List.length_append] at h1
  refine ⟨by omega, h2, fun i hi => ⟨g, rfl, Nat.lt_of_lt_of_le h4 hb.size, ?_⟩⟩
  have := h5 i (by rw [List.length_append]; omega)
  rw [List.getElem_append_left hi] at this
  rw [hb.cell (p := ⟨g, i, none⟩) h4]; exact this
end Go.Proofs.Ytfhkpkebiinglaa
