/- NatSums: the walk. -/
import Derived.Test.YtfhkpkebiinglaaLst
namespace Go.Proofs.Ytfhkpkebiinglaa
open Go.RowKit
set_option linter.unusedVariables false
theorem one_strs (S : List ByteArray) : ∀ u ∈ S.map Value.string, u.oneCell' = true := fun u hu => by
  obtain ⟨s, _, rfl⟩ := List.mem_map.1 hu; rfl
theorem list_cells {S : List ByteArray} {W : World} {b0 off : Nat} (h : ∀ i (h : i < S.length), W.cell? ⟨b0, off + i, none⟩ = some (.string S[i])) : ∀ i (h : i < (S.map Value.string).length), W.cell? ((⟨b0, off, none⟩ : Addr).add i) = some (S.map Value.string)[i] := fun i hi => by
  rw [List.length_map] at hi
  rw [Addr.add_lit, h i hi, List.getElem_map]
set_option maxRecDepth 100000 in
set_option maxHeartbeats 4000000 in
theorem sums_ff (a b s1 s2 s3 : ByteArray) (e1 e2 e3 : Int) (S : List ByteArray) (n b0 off cap : Nat) (HN : Hid (S.length = n)) (hn0 : 0 < n) (hnc : n ≤ cap) (hl16 : n * 16 ≤ 140737488351232)
    (H32 : Hid (∀ w : World, Calls Try.prog 32 #[.string a, .string b] w fun e w' => e = .returned (.tuple #[.string s1, .int .i64 e1]) ∧ Below w.heap.size w w'))
    (H33 : Hid (∀ w : World, Calls Try.prog 33 #[.string a, .string b] w fun e w' => e = .returned (.tuple #[.string s2, .int .i64 e2]) ∧ Below w.heap.size w w'))
    (H34 : Hid (∀ (w : World) (g cap : Nat), VRow w (some ⟨g, 0, none⟩) cap (S.map .string) → Calls Try.prog 34 #[.slice (some ⟨g, 0, none⟩) n cap] w fun e w' => e = .returned (.tuple #[.string s3, .int .i64 e3]) ∧ Below w.heap.size w w'))
    (H21 : Hid (∀ w : World, Calls Try.prog 21 #[.slice (some ⟨w.heap.size, 0, none⟩) 2 2] (w.alloc (.cells #[.string a, .string b] 22)) fun e w' => e = .returned (.bool false) ∧ Below w.heap.size w w'))
    (H21L : Hid (∀ w : World, (∀ i (h : i < S.length), w.cell? ⟨b0, off + i, none⟩ = some (.string S[i])) → Calls Try.prog 21 #[.slice (some ⟨b0, off, none⟩) n cap] w fun e w' => e = .returned (.bool false) ∧ w = w'))
    (H35 : Hid (∀ w : World, Calls Try.prog 35 #[.string a, .string b] w fun e w' => e = .returned (.tuple #[.string s1, .int .i64 e1]) ∧ Below w.heap.size w w'))
    (H36 : Hid (∀ w : World, Calls Try.prog 36 #[.string a, .string b] w fun e w' => e = .returned (.tuple #[.string s2, .int .i64 e2]) ∧ Below w.heap.size w w'))
    (H37 : Hid (∀ (w : World) (g cap : Nat), VRow w (some ⟨g, 0, none⟩) cap (S.map .string) → Calls Try.prog 37 #[.slice (some ⟨g, 0, none⟩) n cap] w fun e w' => e = .returned (.tuple #[.string s3, .int .i64 e3]) ∧ Below w.heap.size w w')) (w : World) (hb0 : b0 < w.heap.size) (hcell : ∀ i (h : i < S.length), w.cell? ⟨b0, off + i, none⟩ = some (.string S[i])) :
    Calls Try.prog 9 #[.string a, .string b, .slice (some ⟨b0, off, none⟩) n cap] w fun e w' => e = .returned (.bool true) ∧ Below w.heap.size w w' := by
  have HC : Hid (∀ W, Below w.heap.size w W → ∀ i (h : i < S.length), W.cell? ⟨b0, off + i, none⟩ = some (.string S[i])) := fun W hW i h => by rw [hW.cell (p := ⟨b0, off + i, none⟩) hb0]; exact hcell i h
  clear hcell
  go_enter Try.func9, Try.ntmps9
  go_wp2_with (first | (go_at_call 32; with_reducible refine (H32.out _).mono ?_; rintro e w1 ⟨rfl, B1⟩) | (go_at_call 33; with_reducible refine (H33.out _).mono ?_; rintro e w2 ⟨rfl, B2⟩) | (at_builtin; refine VOwn.copy rfl _ _ 43 rfl Try.underlying43 info22 rfl w (B1.on B2) rfl ⟨b0, off, none⟩ cap (S.map .string) (one_strs S) (by rw [List.length_map, HN.out]; rfl) (list_cells (HC.out _ (B1.on B2))) (by rw [List.length_map, HN.out]; omega) ?_; intro v3 w3 hc3; have HV3 := Lib.hid hc3; clear hc3) | (at_builtin; refine VOwn.push rfl _ _ 43 rfl Try.underlying43 info22 rfl w HV3.out (.string ⟨#[109, 97, 114, 107]⟩) rfl rfl rfl (by rw [List.length_map, HN.out]; omega) ?_; intro g4 c4 w4 hc4 hg4; rw [List.length_map, HN.out] at hc4 ⊢; have HV4 := Lib.hid hc4; have hc4n : n + 1 ≤ c4 := (by have := hc4.row.1; rw [List.length_append, List.length_map, HN.out] at this; exact this); have hc4m : c4 ≤ 9223372036854775807 := hc4.row.2.1; clear hc4) | (go_at_call 34; refine (H34.out _ _ _ (HV4.out.front (Below.refl _ _))).mono ?_; rintro e w5 ⟨rfl, B5⟩) | (go_at_call 21; refine (H21.out _).mono ?_; rintro e w6 ⟨rfl, B6⟩) | (go_at_call 35; with_reducible refine (H35.out _).mono ?_; rintro e w7 ⟨rfl, B7⟩) | (go_at_call 36; with_reducible refine (H36.out _).mono ?_; rintro e w8 ⟨rfl, B8⟩) | (go_at_call 23; refine (is_same _ _ _).mono ?_; rintro e w9 ⟨rfl, rfl⟩))
  go_loopw [18, 19] (fun vs vi wr => ∃ i, i ≤ n ∧ vi = .int .i64 ((i : Nat) : Int) ∧ Hid (VOwn w8 9 vs ((S.take i).map .string) wr)) (fun _ vi _ => n - (intOf vi).toNat)
  case atStart => exact ⟨0, Nat.zero_le _, rfl, VOwn.nil 9 (Below.refl _ _)⟩
  case round =>
    obtain ⟨i, hi, rfl, HW⟩ := hrel
    have HB4 : Hid (Below w4.heap.size w4 wr) := (((B5.on B6).on B7).on B8).on HW.out.below
    have HBW : Hid (Below w.heap.size w wr) := HV4.out.below.on HB4.out
    by_cases hlt : i < n
    · have hiS : i < S.length := by rw [HN.out]; exact hlt
      obtain ⟨b4, e4, hb4, hc4⟩ := (HV4.out.front HB4.out).cell i (by rw [List.length_map]; exact hiS)
      cases e4
      rw [List.getElem_map] at hc4
      have hcl := HC.out wr HBW.out i hiS
      have hb0r : b0 < wr.heap.size := Nat.lt_of_lt_of_le hb0 HBW.out.size
      have HSI := Lib.hid (show (S.take (i + 1)).map Value.string = (S.take i).map Value.string ++ [.string S[i]] by rw [List.take_succ_eq_append_getElem hiS, List.map_append]; rfl)
      have HTL : Hid (((S.take i).map Value.string).length = i) := by show _ = _; rw [List.length_map, List.length_take]; omega
      generalize S[i] = s at *
      clear hiS
      go_wp2
      go_region
      go_wp2_with (first | (at_builtin; refine VOwn.push rfl _ _ 45 rfl Try.underlying45 info9 rfl w8 (W := wr.drew) ⟨HW.out.own, HW.out.below.drew⟩ (.string s) rfl rfl rfl (by rw [HTL.out]; omega) ?_; intro g6 c6 w9 hv9 hg9; rw [HTL.out] at hv9 ⊢; have HV9 := Lib.hid hv9; clear hv9))
      go_roundw
      case rel => exact ⟨i + 1, by omega, by go_num, by show VOwn _ _ _ _ _; rw [HSI.out]; exact HV9⟩
      case measure => simp [intOf]; omega
    · have hie : i = n := by omega
      subst hie
      have hST : S.take i = S := by rw [← HN.out]; exact List.take_length
      rw [hST] at HW
      obtain ⟨g5, c5, hv5, _, hg5⟩ := HW.out.own.form (by rw [List.length_map, HN.out]; exact hn0)
      rw [List.length_map, HN.out] at hv5
      subst hv5
      have HR5 : Hid (VRow wr (some ⟨g5, 0, none⟩) c5 (S.map .string)) := by
        have h := HW.out
        rw [← List.append_nil (S.map Value.string)] at h
        exact h.front (Below.refl _ _)
      have hg4w : g4 < w4.heap.size := hg4
      have HMK : Hid (∀ W, Below w4.heap.size w4 W → W.cell? ⟨g4, i, none⟩ = some (.string ⟨#[109, 97, 114, 107]⟩)) := fun W hW => by
        rw [hW.cell (p := ⟨g4, i, none⟩) hg4w]
        have := HV4.out.row.2.2.2.2 i (by rw [List.length_append, List.length_map, HN.out]; exact Nat.lt_succ_self _)
        rw [this]
        rw [List.getElem_append_right (by rw [List.length_map, HN.out]; exact Nat.le_refl _)]
        simp [HN.out]
      clear hST hlt
      go_wp2_with (first | (go_at_call 21; refine (H21L.out _ (HC.out _ HBW.out)).mono ?_; rintro e w' ⟨rfl, rfl⟩) | (go_at_call 37; refine (H37.out _ _ _ HR5.out).mono ?_; rintro e w10 ⟨rfl, B10⟩; have hmk := HMK.out w10 (HB4.out.on B10); have hg4x : g4 < w10.heap.size := Nat.lt_of_lt_of_le hg4w (HB4.out.on B10).size) | (go_at_call 23; refine (is_same _ _ _).mono ?_; rintro e w9 ⟨rfl, rfl⟩) | (go_at_call 19; refine (awake_any _).mono ?_; rintro e wz ⟨rfl, BZ⟩))
      go_ret
      exact ⟨rfl, (HBW.out.on B10).on BZ⟩
set_option maxRecDepth 100000 in
set_option maxHeartbeats 4000000 in
theorem sums_tf (a b s1 s2 s3 : ByteArray) (e1 e2 e3 : Int) (S : List ByteArray) (n b0 off cap : Nat) (HN : Hid (S.length = n)) (hn0 : 0 < n) (hnc : n ≤ cap) (hl16 : n * 16 ≤ 140737488351232)
    (H32 : Hid (∀ w : World, Calls Try.prog 32 #[.string a, .string b] w fun e w' => e = .returned (.tuple #[.string ⟨#[]⟩, .int .i64 2]) ∧ Below w.heap.size w w'))
    (H33 : Hid (∀ w : World, Calls Try.prog 33 #[.string a, .string b] w fun e w' => e = .returned (.tuple #[.string ⟨#[]⟩, .int .i64 2]) ∧ Below w.heap.size w w'))
    (H34 : Hid (∀ (w : World) (g cap : Nat), VRow w (some ⟨g, 0, none⟩) cap (S.map .string) → Calls Try.prog 34 #[.slice (some ⟨g, 0, none⟩) n cap] w fun e w' => e = .returned (.tuple #[.string s3, .int .i64 e3]) ∧ Below w.heap.size w w'))
    (H21 : Hid (∀ w : World, Calls Try.prog 21 #[.slice (some ⟨w.heap.size, 0, none⟩) 2 2] (w.alloc (.cells #[.string a, .string b] 22)) fun e w' => e = .returned (.bool true) ∧ Below w.heap.size w w'))
    (H21L : Hid (∀ w : World, (∀ i (h : i < S.length), w.cell? ⟨b0, off + i, none⟩ = some (.string S[i])) → Calls Try.prog 21 #[.slice (some ⟨b0, off, none⟩) n cap] w fun e w' => e = .returned (.bool false) ∧ w = w'))
    (H37 : Hid (∀ (w : World) (g cap : Nat), VRow w (some ⟨g, 0, none⟩) cap (S.map .string) → Calls Try.prog 37 #[.slice (some ⟨g, 0, none⟩) n cap] w fun e w' => e = .returned (.tuple #[.string s3, .int .i64 e3]) ∧ Below w.heap.size w w')) (w : World) (hb0 : b0 < w.heap.size) (hcell : ∀ i (h : i < S.length), w.cell? ⟨b0, off + i, none⟩ = some (.string S[i])) :
    Calls Try.prog 9 #[.string a, .string b, .slice (some ⟨b0, off, none⟩) n cap] w fun e w' => e = .returned (.bool true) ∧ Below w.heap.size w w' := by
  have HC : Hid (∀ W, Below w.heap.size w W → ∀ i (h : i < S.length), W.cell? ⟨b0, off + i, none⟩ = some (.string S[i])) := fun W hW i h => by rw [hW.cell (p := ⟨b0, off + i, none⟩) hb0]; exact hcell i h
  clear hcell
  go_enter Try.func9, Try.ntmps9
  go_wp2_with (first | (go_at_call 32; with_reducible refine (H32.out _).mono ?_; rintro e w1 ⟨rfl, B1⟩) | (go_at_call 33; with_reducible refine (H33.out _).mono ?_; rintro e w2 ⟨rfl, B2⟩) | (at_builtin; refine VOwn.copy rfl _ _ 43 rfl Try.underlying43 info22 rfl w (B1.on B2) rfl ⟨b0, off, none⟩ cap (S.map .string) (one_strs S) (by rw [List.length_map, HN.out]; rfl) (list_cells (HC.out _ (B1.on B2))) (by rw [List.length_map, HN.out]; omega) ?_; intro v3 w3 hc3; have HV3 := Lib.hid hc3; clear hc3) | (at_builtin; refine VOwn.push rfl _ _ 43 rfl Try.underlying43 info22 rfl w HV3.out (.string ⟨#[109, 97, 114, 107]⟩) rfl rfl rfl (by rw [List.length_map, HN.out]; omega) ?_; intro g4 c4 w4 hc4 hg4; rw [List.length_map, HN.out] at hc4 ⊢; have HV4 := Lib.hid hc4; have hc4n : n + 1 ≤ c4 := (by have := hc4.row.1; rw [List.length_append, List.length_map, HN.out] at this; exact this); have hc4m : c4 ≤ 9223372036854775807 := hc4.row.2.1; clear hc4) | (go_at_call 34; refine (H34.out _ _ _ (HV4.out.front (Below.refl _ _))).mono ?_; rintro e w5 ⟨rfl, B5⟩) | (go_at_call 21; refine (H21.out _).mono ?_; rintro e w6 ⟨rfl, B6⟩) | (go_at_call 35; with_reducible refine (H35.out _).mono ?_; rintro e w7 ⟨rfl, B7⟩) | (go_at_call 36; with_reducible refine (H36.out _).mono ?_; rintro e w6 ⟨rfl, B8⟩) | (go_at_call 23; refine (is_same _ _ _).mono ?_; rintro e w9 ⟨rfl, rfl⟩))
  go_loopw [18, 19] (fun vs vi wr => ∃ i, i ≤ n ∧ vi = .int .i64 ((i : Nat) : Int) ∧ Hid (VOwn w6 9 vs ((S.take i).map .string) wr)) (fun _ vi _ => n - (intOf vi).toNat)
  case atStart => exact ⟨0, Nat.zero_le _, rfl, VOwn.nil 9 (Below.refl _ _)⟩
  case round =>
    obtain ⟨i, hi, rfl, HW⟩ := hrel
    have HB4 : Hid (Below w4.heap.size w4 wr) := (B5.on B6).on HW.out.below
    have HBW : Hid (Below w.heap.size w wr) := HV4.out.below.on HB4.out
    by_cases hlt : i < n
    · have hiS : i < S.length := by rw [HN.out]; exact hlt
      obtain ⟨b4, e4, hb4, hc4⟩ := (HV4.out.front HB4.out).cell i (by rw [List.length_map]; exact hiS)
      cases e4
      rw [List.getElem_map] at hc4
      have hcl := HC.out wr HBW.out i hiS
      have hb0r : b0 < wr.heap.size := Nat.lt_of_lt_of_le hb0 HBW.out.size
      have HSI := Lib.hid (show (S.take (i + 1)).map Value.string = (S.take i).map Value.string ++ [.string S[i]] by rw [List.take_succ_eq_append_getElem hiS, List.map_append]; rfl)
      have HTL : Hid (((S.take i).map Value.string).length = i) := by show _ = _; rw [List.length_map, List.length_take]; omega
      generalize S[i] = s at *
      clear hiS
      go_wp2
      go_region
      go_wp2_with (first | (at_builtin; refine VOwn.push rfl _ _ 45 rfl Try.underlying45 info9 rfl w6 (W := wr.drew) ⟨HW.out.own, HW.out.below.drew⟩ (.string s) rfl rfl rfl (by rw [HTL.out]; omega) ?_; intro g6 c6 w9 hv9 hg9; rw [HTL.out] at hv9 ⊢; have HV9 := Lib.hid hv9; clear hv9))
      go_roundw
      case rel => exact ⟨i + 1, by omega, by go_num, by show VOwn _ _ _ _ _; rw [HSI.out]; exact HV9⟩
      case measure => simp [intOf]; omega
    · have hie : i = n := by omega
      subst hie
      have hST : S.take i = S := by rw [← HN.out]; exact List.take_length
      rw [hST] at HW
      obtain ⟨g5, c5, hv5, _, hg5⟩ := HW.out.own.form (by rw [List.length_map, HN.out]; exact hn0)
      rw [List.length_map, HN.out] at hv5
      subst hv5
      have HR5 : Hid (VRow wr (some ⟨g5, 0, none⟩) c5 (S.map .string)) := by
        have h := HW.out
        rw [← List.append_nil (S.map Value.string)] at h
        exact h.front (Below.refl _ _)
      have hg4w : g4 < w4.heap.size := hg4
      have HMK : Hid (∀ W, Below w4.heap.size w4 W → W.cell? ⟨g4, i, none⟩ = some (.string ⟨#[109, 97, 114, 107]⟩)) := fun W hW => by
        rw [hW.cell (p := ⟨g4, i, none⟩) hg4w]
        have := HV4.out.row.2.2.2.2 i (by rw [List.length_append, List.length_map, HN.out]; exact Nat.lt_succ_self _)
        rw [this]
        rw [List.getElem_append_right (by rw [List.length_map, HN.out]; exact Nat.le_refl _)]
        simp [HN.out]
      clear hST hlt
      go_wp2_with (first | (go_at_call 21; refine (H21L.out _ (HC.out _ HBW.out)).mono ?_; rintro e w' ⟨rfl, rfl⟩) | (go_at_call 37; refine (H37.out _ _ _ HR5.out).mono ?_; rintro e w10 ⟨rfl, B10⟩; have hmk := HMK.out w10 (HB4.out.on B10); have hg4x : g4 < w10.heap.size := Nat.lt_of_lt_of_le hg4w (HB4.out.on B10).size) | (go_at_call 23; refine (is_same _ _ _).mono ?_; rintro e w9 ⟨rfl, rfl⟩) | (go_at_call 19; refine (awake_any _).mono ?_; rintro e wz ⟨rfl, BZ⟩))
      go_ret
      exact ⟨rfl, (HBW.out.on B10).on BZ⟩
set_option maxRecDepth 100000 in
set_option maxHeartbeats 4000000 in
theorem sums_ft (a b s1 s2 s3 : ByteArray) (e1 e2 e3 : Int) (S : List ByteArray) (n b0 off cap : Nat) (HN : Hid (S.length = n)) (hn0 : 0 < n) (hnc : n ≤ cap) (hl16 : n * 16 ≤ 140737488351232)
    (H32 : Hid (∀ w : World, Calls Try.prog 32 #[.string a, .string b] w fun e w' => e = .returned (.tuple #[.string s1, .int .i64 e1]) ∧ Below w.heap.size w w'))
    (H33 : Hid (∀ w : World, Calls Try.prog 33 #[.string a, .string b] w fun e w' => e = .returned (.tuple #[.string s2, .int .i64 e2]) ∧ Below w.heap.size w w'))
    (H34 : Hid (∀ (w : World) (g cap : Nat), VRow w (some ⟨g, 0, none⟩) cap (S.map .string) → Calls Try.prog 34 #[.slice (some ⟨g, 0, none⟩) n cap] w fun e w' => e = .returned (.tuple #[.string ⟨#[]⟩, .int .i64 2]) ∧ Below w.heap.size w w'))
    (H21 : Hid (∀ w : World, Calls Try.prog 21 #[.slice (some ⟨w.heap.size, 0, none⟩) 2 2] (w.alloc (.cells #[.string a, .string b] 22)) fun e w' => e = .returned (.bool false) ∧ Below w.heap.size w w'))
    (H21L : Hid (∀ w : World, (∀ i (h : i < S.length), w.cell? ⟨b0, off + i, none⟩ = some (.string S[i])) → Calls Try.prog 21 #[.slice (some ⟨b0, off, none⟩) n cap] w fun e w' => e = .returned (.bool true) ∧ w = w'))
    (H35 : Hid (∀ w : World, Calls Try.prog 35 #[.string a, .string b] w fun e w' => e = .returned (.tuple #[.string s1, .int .i64 e1]) ∧ Below w.heap.size w w'))
    (H36 : Hid (∀ w : World, Calls Try.prog 36 #[.string a, .string b] w fun e w' => e = .returned (.tuple #[.string s2, .int .i64 e2]) ∧ Below w.heap.size w w')) (w : World) (hb0 : b0 < w.heap.size) (hcell : ∀ i (h : i < S.length), w.cell? ⟨b0, off + i, none⟩ = some (.string S[i])) :
    Calls Try.prog 9 #[.string a, .string b, .slice (some ⟨b0, off, none⟩) n cap] w fun e w' => e = .returned (.bool true) ∧ Below w.heap.size w w' := by
  have HC : Hid (∀ W, Below w.heap.size w W → ∀ i (h : i < S.length), W.cell? ⟨b0, off + i, none⟩ = some (.string S[i])) := fun W hW i h => by rw [hW.cell (p := ⟨b0, off + i, none⟩) hb0]; exact hcell i h
  clear hcell
  go_enter Try.func9, Try.ntmps9
  go_wp2_with (first | (go_at_call 32; with_reducible refine (H32.out _).mono ?_; rintro e w1 ⟨rfl, B1⟩) | (go_at_call 33; with_reducible refine (H33.out _).mono ?_; rintro e w2 ⟨rfl, B2⟩) | (at_builtin; refine VOwn.copy rfl _ _ 43 rfl Try.underlying43 info22 rfl w (B1.on B2) rfl ⟨b0, off, none⟩ cap (S.map .string) (one_strs S) (by rw [List.length_map, HN.out]; rfl) (list_cells (HC.out _ (B1.on B2))) (by rw [List.length_map, HN.out]; omega) ?_; intro v3 w3 hc3; have HV3 := Lib.hid hc3; clear hc3) | (at_builtin; refine VOwn.push rfl _ _ 43 rfl Try.underlying43 info22 rfl w HV3.out (.string ⟨#[109, 97, 114, 107]⟩) rfl rfl rfl (by rw [List.length_map, HN.out]; omega) ?_; intro g4 c4 w4 hc4 hg4; rw [List.length_map, HN.out] at hc4 ⊢; have HV4 := Lib.hid hc4; have hc4n : n + 1 ≤ c4 := (by have := hc4.row.1; rw [List.length_append, List.length_map, HN.out] at this; exact this); have hc4m : c4 ≤ 9223372036854775807 := hc4.row.2.1; clear hc4) | (go_at_call 34; refine (H34.out _ _ _ (HV4.out.front (Below.refl _ _))).mono ?_; rintro e w5 ⟨rfl, B5⟩) | (go_at_call 21; refine (H21.out _).mono ?_; rintro e w6 ⟨rfl, B6⟩) | (go_at_call 35; with_reducible refine (H35.out _).mono ?_; rintro e w7 ⟨rfl, B7⟩) | (go_at_call 36; with_reducible refine (H36.out _).mono ?_; rintro e w8 ⟨rfl, B8⟩) | (go_at_call 23; refine (is_same _ _ _).mono ?_; rintro e w9 ⟨rfl, rfl⟩))
  go_loopw [18, 19] (fun vs vi wr => ∃ i, i ≤ n ∧ vi = .int .i64 ((i : Nat) : Int) ∧ Hid (VOwn w8 9 vs ((S.take i).map .string) wr)) (fun _ vi _ => n - (intOf vi).toNat)
  case atStart => exact ⟨0, Nat.zero_le _, rfl, VOwn.nil 9 (Below.refl _ _)⟩
  case round =>
    obtain ⟨i, hi, rfl, HW⟩ := hrel
    have HB4 : Hid (Below w4.heap.size w4 wr) := (((B5.on B6).on B7).on B8).on HW.out.below
    have HBW : Hid (Below w.heap.size w wr) := HV4.out.below.on HB4.out
    by_cases hlt : i < n
    · have hiS : i < S.length := by rw [HN.out]; exact hlt
      obtain ⟨b4, e4, hb4, hc4⟩ := (HV4.out.front HB4.out).cell i (by rw [List.length_map]; exact hiS)
      cases e4
      rw [List.getElem_map] at hc4
      have hcl := HC.out wr HBW.out i hiS
      have hb0r : b0 < wr.heap.size := Nat.lt_of_lt_of_le hb0 HBW.out.size
      have HSI := Lib.hid (show (S.take (i + 1)).map Value.string = (S.take i).map Value.string ++ [.string S[i]] by rw [List.take_succ_eq_append_getElem hiS, List.map_append]; rfl)
      have HTL : Hid (((S.take i).map Value.string).length = i) := by show _ = _; rw [List.length_map, List.length_take]; omega
      generalize S[i] = s at *
      clear hiS
      go_wp2
      go_region
      go_wp2_with (first | (at_builtin; refine VOwn.push rfl _ _ 45 rfl Try.underlying45 info9 rfl w8 (W := wr.drew) ⟨HW.out.own, HW.out.below.drew⟩ (.string s) rfl rfl rfl (by rw [HTL.out]; omega) ?_; intro g6 c6 w9 hv9 hg9; rw [HTL.out] at hv9 ⊢; have HV9 := Lib.hid hv9; clear hv9))
      go_roundw
      case rel => exact ⟨i + 1, by omega, by go_num, by show VOwn _ _ _ _ _; rw [HSI.out]; exact HV9⟩
      case measure => simp [intOf]; omega
    · have hie : i = n := by omega
      subst hie
      have hST : S.take i = S := by rw [← HN.out]; exact List.take_length
      rw [hST] at HW
      obtain ⟨g5, c5, hv5, _, hg5⟩ := HW.out.own.form (by rw [List.length_map, HN.out]; exact hn0)
      rw [List.length_map, HN.out] at hv5
      subst hv5
      have HR5 : Hid (VRow wr (some ⟨g5, 0, none⟩) c5 (S.map .string)) := by
        have h := HW.out
        rw [← List.append_nil (S.map Value.string)] at h
        exact h.front (Below.refl _ _)
      have hg4w : g4 < w4.heap.size := hg4
      have HMK : Hid (∀ W, Below w4.heap.size w4 W → W.cell? ⟨g4, i, none⟩ = some (.string ⟨#[109, 97, 114, 107]⟩)) := fun W hW => by
        rw [hW.cell (p := ⟨g4, i, none⟩) hg4w]
        have := HV4.out.row.2.2.2.2 i (by rw [List.length_append, List.length_map, HN.out]; exact Nat.lt_succ_self _)
        rw [this]
        rw [List.getElem_append_right (by rw [List.length_map, HN.out]; exact Nat.le_refl _)]
        simp [HN.out]
      clear hST hlt
      go_wp2_with (first | (go_at_call 21; refine (H21L.out _ (HC.out _ HBW.out)).mono ?_; rintro e w' ⟨rfl, rfl⟩; have hmk := HMK.out wr HB4.out; have hg4x : g4 < wr.heap.size := Nat.lt_of_lt_of_le hg4w HB4.out.size) | (go_at_call 23; refine (is_same _ _ _).mono ?_; rintro e w9 ⟨rfl, rfl⟩) | (go_at_call 19; refine (awake_any _).mono ?_; rintro e wz ⟨rfl, BZ⟩))
      go_ret
      exact ⟨rfl, HBW.out.on BZ⟩
set_option maxRecDepth 100000 in
set_option maxHeartbeats 4000000 in
theorem sums_tt (a b s1 s2 s3 : ByteArray) (e1 e2 e3 : Int) (S : List ByteArray) (n b0 off cap : Nat) (HN : Hid (S.length = n)) (hn0 : 0 < n) (hnc : n ≤ cap) (hl16 : n * 16 ≤ 140737488351232)
    (H32 : Hid (∀ w : World, Calls Try.prog 32 #[.string a, .string b] w fun e w' => e = .returned (.tuple #[.string ⟨#[]⟩, .int .i64 2]) ∧ Below w.heap.size w w'))
    (H33 : Hid (∀ w : World, Calls Try.prog 33 #[.string a, .string b] w fun e w' => e = .returned (.tuple #[.string ⟨#[]⟩, .int .i64 2]) ∧ Below w.heap.size w w'))
    (H34 : Hid (∀ (w : World) (g cap : Nat), VRow w (some ⟨g, 0, none⟩) cap (S.map .string) → Calls Try.prog 34 #[.slice (some ⟨g, 0, none⟩) n cap] w fun e w' => e = .returned (.tuple #[.string ⟨#[]⟩, .int .i64 2]) ∧ Below w.heap.size w w'))
    (H21 : Hid (∀ w : World, Calls Try.prog 21 #[.slice (some ⟨w.heap.size, 0, none⟩) 2 2] (w.alloc (.cells #[.string a, .string b] 22)) fun e w' => e = .returned (.bool true) ∧ Below w.heap.size w w'))
    (H21L : Hid (∀ w : World, (∀ i (h : i < S.length), w.cell? ⟨b0, off + i, none⟩ = some (.string S[i])) → Calls Try.prog 21 #[.slice (some ⟨b0, off, none⟩) n cap] w fun e w' => e = .returned (.bool true) ∧ w = w')) (w : World) (hb0 : b0 < w.heap.size) (hcell : ∀ i (h : i < S.length), w.cell? ⟨b0, off + i, none⟩ = some (.string S[i])) :
    Calls Try.prog 9 #[.string a, .string b, .slice (some ⟨b0, off, none⟩) n cap] w fun e w' => e = .returned (.bool true) ∧ Below w.heap.size w w' := by
  have HC : Hid (∀ W, Below w.heap.size w W → ∀ i (h : i < S.length), W.cell? ⟨b0, off + i, none⟩ = some (.string S[i])) := fun W hW i h => by rw [hW.cell (p := ⟨b0, off + i, none⟩) hb0]; exact hcell i h
  clear hcell
  go_enter Try.func9, Try.ntmps9
  go_wp2_with (first | (go_at_call 32; with_reducible refine (H32.out _).mono ?_; rintro e w1 ⟨rfl, B1⟩) | (go_at_call 33; with_reducible refine (H33.out _).mono ?_; rintro e w2 ⟨rfl, B2⟩) | (at_builtin; refine VOwn.copy rfl _ _ 43 rfl Try.underlying43 info22 rfl w (B1.on B2) rfl ⟨b0, off, none⟩ cap (S.map .string) (one_strs S) (by rw [List.length_map, HN.out]; rfl) (list_cells (HC.out _ (B1.on B2))) (by rw [List.length_map, HN.out]; omega) ?_; intro v3 w3 hc3; have HV3 := Lib.hid hc3; clear hc3) | (at_builtin; refine VOwn.push rfl _ _ 43 rfl Try.underlying43 info22 rfl w HV3.out (.string ⟨#[109, 97, 114, 107]⟩) rfl rfl rfl (by rw [List.length_map, HN.out]; omega) ?_; intro g4 c4 w4 hc4 hg4; rw [List.length_map, HN.out] at hc4 ⊢; have HV4 := Lib.hid hc4; have hc4n : n + 1 ≤ c4 := (by have := hc4.row.1; rw [List.length_append, List.length_map, HN.out] at this; exact this); have hc4m : c4 ≤ 9223372036854775807 := hc4.row.2.1; clear hc4) | (go_at_call 34; refine (H34.out _ _ _ (HV4.out.front (Below.refl _ _))).mono ?_; rintro e w5 ⟨rfl, B5⟩) | (go_at_call 21; refine (H21.out _).mono ?_; rintro e w6 ⟨rfl, B6⟩) | (go_at_call 35; with_reducible refine (H35.out _).mono ?_; rintro e w7 ⟨rfl, B7⟩) | (go_at_call 36; with_reducible refine (H36.out _).mono ?_; rintro e w6 ⟨rfl, B8⟩) | (go_at_call 23; refine (is_same _ _ _).mono ?_; rintro e w9 ⟨rfl, rfl⟩))
  go_loopw [18, 19] (fun vs vi wr => ∃ i, i ≤ n ∧ vi = .int .i64 ((i : Nat) : Int) ∧ Hid (VOwn w6 9 vs ((S.take i).map .string) wr)) (fun _ vi _ => n - (intOf vi).toNat)
  case atStart => exact ⟨0, Nat.zero_le _, rfl, VOwn.nil 9 (Below.refl _ _)⟩
  case round =>
    obtain ⟨i, hi, rfl, HW⟩ := hrel
    have HB4 : Hid (Below w4.heap.size w4 wr) := (B5.on B6).on HW.out.below
    have HBW : Hid (Below w.heap.size w wr) := HV4.out.below.on HB4.out
    by_cases hlt : i < n
    · have hiS : i < S.length := by rw [HN.out]; exact hlt
      obtain ⟨b4, e4, hb4, hc4⟩ := (HV4.out.front HB4.out).cell i (by rw [List.length_map]; exact hiS)
      cases e4
      rw [List.getElem_map] at hc4
      have hcl := HC.out wr HBW.out i hiS
      have hb0r : b0 < wr.heap.size := Nat.lt_of_lt_of_le hb0 HBW.out.size
      have HSI := Lib.hid (show (S.take (i + 1)).map Value.string = (S.take i).map Value.string ++ [.string S[i]] by rw [List.take_succ_eq_append_getElem hiS, List.map_append]; rfl)
      have HTL : Hid (((S.take i).map Value.string).length = i) := by show _ = _; rw [List.length_map, List.length_take]; omega
      generalize S[i] = s at *
      clear hiS
      go_wp2
      go_region
      go_wp2_with (first | (at_builtin; refine VOwn.push rfl _ _ 45 rfl Try.underlying45 info9 rfl w6 (W := wr.drew) ⟨HW.out.own, HW.out.below.drew⟩ (.string s) rfl rfl rfl (by rw [HTL.out]; omega) ?_; intro g6 c6 w9 hv9 hg9; rw [HTL.out] at hv9 ⊢; have HV9 := Lib.hid hv9; clear hv9))
      go_roundw
      case rel => exact ⟨i + 1, by omega, by go_num, by show VOwn _ _ _ _ _; rw [HSI.out]; exact HV9⟩
      case measure => simp [intOf]; omega
    · have hie : i = n := by omega
      subst hie
      have hST : S.take i = S := by rw [← HN.out]; exact List.take_length
      rw [hST] at HW
      obtain ⟨g5, c5, hv5, _, hg5⟩ := HW.out.own.form (by rw [List.length_map, HN.out]; exact hn0)
      rw [List.length_map, HN.out] at hv5
      subst hv5
      have HR5 : Hid (VRow wr (some ⟨g5, 0, none⟩) c5 (S.map .string)) := by
        have h := HW.out
        rw [← List.append_nil (S.map Value.string)] at h
        exact h.front (Below.refl _ _)
      have hg4w : g4 < w4.heap.size := hg4
      have HMK : Hid (∀ W, Below w4.heap.size w4 W → W.cell? ⟨g4, i, none⟩ = some (.string ⟨#[109, 97, 114, 107]⟩)) := fun W hW => by
        rw [hW.cell (p := ⟨g4, i, none⟩) hg4w]
        have := HV4.out.row.2.2.2.2 i (by rw [List.length_append, List.length_map, HN.out]; exact Nat.lt_succ_self _)
        rw [this]
        rw [List.getElem_append_right (by rw [List.length_map, HN.out]; exact Nat.le_refl _)]
        simp [HN.out]
      clear hST hlt
      go_wp2_with (first | (go_at_call 21; refine (H21L.out _ (HC.out _ HBW.out)).mono ?_; rintro e w' ⟨rfl, rfl⟩; have hmk := HMK.out wr HB4.out; have hg4x : g4 < wr.heap.size := Nat.lt_of_lt_of_le hg4w HB4.out.size) | (go_at_call 23; refine (is_same _ _ _).mono ?_; rintro e w9 ⟨rfl, rfl⟩) | (go_at_call 19; refine (awake_any _).mono ?_; rintro e wz ⟨rfl, BZ⟩))
      go_ret
      exact ⟨rfl, HBW.out.on BZ⟩
end Go.Proofs.Ytfhkpkebiinglaa
