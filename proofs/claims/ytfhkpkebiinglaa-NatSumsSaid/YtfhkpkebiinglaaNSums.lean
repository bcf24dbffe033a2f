/- 2.8: sums, differences of every two numbers, sums of lists; the list stays. Conditions: none. -/
import Derived.Test.YtfhkpkebiinglaaNsj
import Derived.SliceStrings
import Derived.Carry
namespace Go.Proofs.Ytfhkpkebiinglaa
open Go.ChangeShapes Go.ChangeMaps Go.WideShapes Go.ChangeAt Go.RowKit Go.Joins
set_option linter.unusedVariables false
theorem Try.laidOut9 : laidOutB Try.prog = true := by kernel_rfl
theorem Try.cells22 : Try.prog.cellsOf 22 = 1 := by kernel_rfl
theorem Try.bytes22 : Try.prog.bytesOf 22 = 16 := by kernel_rfl

set_option maxRecDepth 100000 in
theorem natSums_lifted (os : Os) (started : os.Started) (H : Type) (enc : TypeId × Value → H) :
    ReturnsInHanded {} Try.checked os 9 .any (Rows.natSumsSpec.pre6 enc Try.prog Try.f9 Rows.natSumsRow.domain false) (Rows.natSumsSpec.post enc Try.prog Try.f9 false true false false) := by
  refine returnsInHanded_of_change_sized (C := Try.checked) Try.own started (by kernel_rfl) Try.func9
    (ChangeSpec.witness6 (enc := enc) (C := Try.checked) false ⟨#[], #[.string ⟨#[]⟩, .string ⟨#[]⟩, .slice none 0 0], []⟩ 8 (by kernel_rfl) (by kernel_rfl) (by kernel_rfl) (by kernel_rfl)) ?_
  intro W base args ds gs before hval0 hW hcnd hsz0 _
  have hval : ∀ (j : Nat) t v, Try.f9.params[j]? = some t → args[j]? = some v → Value.okWide Try.prog W .any base t v := hval0
  have hsz : (DataW.weightsEach Try.prog (Try.f9.params.toList ++ Rows.natSumsSpec.plain.varTypes Try.prog) (ds ++ gs)).all (· ≤ reachBytes) = true := hsz0
  clear hsz0
  have hW' := hW
  obtain ⟨p, q, hA0, hV, rfl, hfz, hnd⟩ := hW
  have hA : DataW.TrodAll enc Try.prog W 0 (fun _ => true) true Try.f9.params.toList args.toList ds p := hA0
  rw [Try.params9] at hA hval hsz
  obtain ⟨v0, vs0, d0, ds0, p0, q0, hargs, rfl, rfl, h0, r0⟩ := trodAll_cons hA
  obtain ⟨v1, vs1, d1, ds1, p1, q1, rfl, rfl, rfl, h1, r1⟩ := trodAll_cons r0
  obtain ⟨v2, vs2, d2, ds2, p2, q2, rfl, rfl, rfl, h2, r2⟩ := trodAll_cons r1
  obtain ⟨rfl, rfl, rfl⟩ := trodAll_nil r2
  obtain rfl : args = #[v0, v1, v2] := by cases args; simp_all
  obtain ⟨rfl, rfl⟩ := trodVars_none hV
  obtain ⟨a0, rfl, rfl, rfl, wa0⟩ := open_string Try.underlying22 (hval 0 22 v0 rfl rfl) h0
  have sz0 : a0.size ≤ maxLen := by
    have h := sized_string hsz (j := 0) (t := 22) rfl rfl
    rw [Array.length_toList] at h
    have h2 : a0.size ≤ 140737488351232 := h
    unfold maxLen; omega
  obtain ⟨a1, rfl, rfl, rfl, wa1⟩ := open_string Try.underlying22 (hval 1 22 v1 rfl rfl) h1
  have sz1 : a1.size ≤ maxLen := by
    have h := sized_string hsz (j := 1) (t := 22) rfl rfl
    rw [Array.length_toList] at h
    have h2 : a1.size ≤ 140737488351232 := h
    unfold maxLen; omega
  obtain ⟨ao, len, cap, rfl⟩ := okWide_slice Try.underlying43 (hval 2 43 v2 rfl rfl)
  clear hA0 hval0
  simp only [List.append_nil, List.nil_append] at hW'
  have hlt : ∀ x ∈ p2, x.block < W.heap.size := fun x hx => by simpa using hW'.lt x (by simpa using hx)
  have h2k := h2
  have hback : ∀ W' : World, Below W.heap.size W W' → DataW.Trod enc Try.prog W' 0 (fun b => decide (b < W.heap.size)) true 43 (.slice ao len cap) d2 p2 :=
    fun W' hn => Below.trod Try.laidOut9 (by kernel_rfl) (of_decide_eq_true (by kernel_rfl)) h2k hn hlt
  have fin : ∀ e W', (e = Ending.returned (.bool true) ∧ Below W.heap.size W W') → ∃ v, e = Ending.returned v ∧ Rows.natSumsSpec.post enc Try.checked.prog Try.f9 false true false false W #[.string a0, .string a1, .slice ao len cap] v W' := by
    rintro e W' ⟨rfl, hb⟩
    refine ⟨_, rfl, _, _, _, [], [] ++ ([] ++ (p2 ++ [])), [], hW', trodAll_cons_mk (shut_bool Try.underlying4 _) trodAll_mk0, ?_, rfl, hb.frame _, fun h => by cases h⟩
    exact trodAll_cons_mk (shut_string Try.underlying22 wa0) (trodAll_cons_mk (shut_string Try.underlying22 wa1) (trodAll_cons_mk (hback W' hb) trodAll_mk0))
  obtain ⟨fuel, hf⟩ := h2
  rcases open_strings Try.underlying43 Try.underlying22 Try.cells22 hf with ⟨hcs, hx⟩ | ⟨a, len', cap', ss, hcs, _, hl, hm, hz, hx, hcell, hws⟩
  · simp [Value.cells] at hcs
    obtain ⟨rfl, rfl, rfl⟩ := hcs
    exact (sums_nil a0 a1 sz0 sz1 W).mono fin
  · simp [Value.cells] at hcs
    obtain ⟨rfl, rfl, rfl⟩ := hcs
    by_cases hl0 : len = 0
    · subst hl0
      exact (sums_zero a0 a1 sz0 sz1 a cap hm W).mono fin
    · simp only [Prod.mk.injEq] at hx
      obtain ⟨rfl, rfl⟩ := hx
      simp only [if_true] at hz
      have hreach : len * 16 ≤ 140737488351232 := by
        have := sized_slice hsz (j := 2) (t := 43) (e := 22) rfl rfl Try.underlying43
        rw [Try.bytes22] at this
        simp only [strs, List.length_map, List.length_take, List.length_drop, reachBytes] at this
        omega
      obtain ⟨b, off, spot⟩ := a
      have hspot : spot = none := by simpa [Addr.add] using World.cell?_spot (hcell 0 (by omega))
      subst hspot
      have hbW : b < W.heap.size := hlt (.cell b off) (MemPlace.mem_row.2 ⟨0, by omega, by simp⟩)
      refine (sums_list a0 a1 sz0 sz1 (ss.take len) len b off cap (by rw [List.length_take]; omega) (by omega) hl hm hreach (fun s hs => hws s (List.mem_of_mem_take hs)) W hbW fun i hi => ?_).mono fin
      rw [List.length_take] at hi
      have := hcell i (by omega)
      rw [Addr.add_lit] at this
      rw [this, List.getElem_take]
      simp [List.getD, show i < ss.length by omega]

theorem natSums_holds : Rows.NatSumsSaid :=
  OpenClaim.holds_of_wide 9 Try.f9 rfl rfl rfl rfl rfl rfl rfl ⟨rfl, rfl, rfl, rfl, rfl⟩ rfl rfl rfl rfl rfl (by kernel_rfl) Try.func9 (by kernel_rfl)
    (of_decide_eq_true (by kernel_rfl)) (by unfold Func.isWrapper; rw [if_neg (of_decide_eq_false (by kernel_rfl))]; exact ⟨rfl, rfl⟩)
    (fun os started H enc _ => natSums_lifted os started H enc)
#print axioms natSums_holds

end Go.Proofs.Ytfhkpkebiinglaa
