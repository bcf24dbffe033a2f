/- NatSums: the walk for an empty list. -/
import Derived.Test.YtfhkpkebiinglaaNsw
namespace Go.Proofs.Ytfhkpkebiinglaa
open Go.RowKit
set_option linter.unusedVariables false
set_option maxRecDepth 100000 in
set_option maxHeartbeats 4000000 in
theorem sume_fn (a b s1 s2 s3 : ByteArray) (e1 e2 e3 : Int) (p : Addr) (cap : Nat)
    (H32 : Hid (∀ w : World, Calls Try.prog 32 #[.string a, .string b] w fun e w' => e = .returned (.tuple #[.string s1, .int .i64 e1]) ∧ Below w.heap.size w w'))
    (H33 : Hid (∀ w : World, Calls Try.prog 33 #[.string a, .string b] w fun e w' => e = .returned (.tuple #[.string s2, .int .i64 e2]) ∧ Below w.heap.size w w'))
    (H34 : Hid (∀ (w : World) (g cap : Nat), VRow w (some ⟨g, 0, none⟩) cap [] → Calls Try.prog 34 #[.slice (some ⟨g, 0, none⟩) 0 cap] w fun e w' => e = .returned (.tuple #[.string s3, .int .i64 e3]) ∧ Below w.heap.size w w'))
    (H21 : Hid (∀ w : World, Calls Try.prog 21 #[.slice (some ⟨w.heap.size, 0, none⟩) 2 2] (w.alloc (.cells #[.string a, .string b] 22)) fun e w' => e = .returned (.bool false) ∧ Below w.heap.size w w'))
    (H21L : Hid (∀ w : World, Calls Try.prog 21 #[.slice none 0 0] w fun e w' => e = .returned (.bool false) ∧ w = w'))
    (H37 : Hid (∀ w : World, Calls Try.prog 37 #[.slice none 0 0] w fun e w' => e = .returned (.tuple #[.string s3, .int .i64 e3]) ∧ Below w.heap.size w w'))
    (H35 : Hid (∀ w : World, Calls Try.prog 35 #[.string a, .string b] w fun e w' => e = .returned (.tuple #[.string s1, .int .i64 e1]) ∧ Below w.heap.size w w'))
    (H36 : Hid (∀ w : World, Calls Try.prog 36 #[.string a, .string b] w fun e w' => e = .returned (.tuple #[.string s2, .int .i64 e2]) ∧ Below w.heap.size w w')) (w : World) :
    Calls Try.prog 9 #[.string a, .string b, .slice none 0 0] w fun e w' => e = .returned (.bool true) ∧ Below w.heap.size w w' := by
  go_enter Try.func9, Try.ntmps9
  go_wp2_with (first | (go_at_call 32; with_reducible refine (H32.out _).mono ?_; rintro e w1 ⟨rfl, B1⟩) | (go_at_call 33; with_reducible refine (H33.out _).mono ?_; rintro e w2 ⟨rfl, B2⟩) | (at_builtin; refine VOwn.push rfl _ _ 43 rfl Try.underlying43 info22 rfl w (VOwn.nil 22 (B1.on B2)) (.string ⟨#[109, 97, 114, 107]⟩) rfl rfl rfl (by simp) ?_; intro g4 c4 w4 hc4 hg4; simp only [List.length_nil, Nat.zero_add, List.nil_append] at hc4 ⊢; have HV4 := Lib.hid hc4; have hc4n : 1 ≤ c4 := hc4.row.1; have hc4m : c4 ≤ 9223372036854775807 := hc4.row.2.1; clear hc4) | (go_at_call 34; refine (H34.out _ _ _ (VOwn.front (V := []) (U := [.string ⟨#[109, 97, 114, 107]⟩]) HV4.out (Below.refl _ _))).mono ?_; rintro e w5 ⟨rfl, B5⟩) | (go_at_call 21; refine (H21.out _).mono ?_; rintro e w6 ⟨rfl, B6⟩) | (go_at_call 35; with_reducible refine (H35.out _).mono ?_; rintro e w7 ⟨rfl, B7⟩) | (go_at_call 36; with_reducible refine (H36.out _).mono ?_; rintro e w8 ⟨rfl, B8⟩) | (go_at_call 23; refine (is_same _ _ _).mono ?_; rintro e w9 ⟨rfl, rfl⟩))
  go_loopw [18, 19] (fun vs vi wr => vi = .int .i64 0 ∧ vs = .slice none 0 0 ∧ Hid (Below w4.heap.size w4 wr)) (fun _ vi _ => (intOf vi).toNat)
  case atStart => exact ⟨rfl, rfl, ((B5.on B6).on B7).on B8⟩
  case round =>
    obtain ⟨rfl, rfl, HB4⟩ := hrel
    have HMK : Hid (∀ W, Below w4.heap.size w4 W → W.cell? ⟨g4, 0, none⟩ = some (.string ⟨#[109, 97, 114, 107]⟩)) := fun W hW => by
      rw [hW.cell (p := ⟨g4, 0, none⟩) hg4]
      exact HV4.out.row.2.2.2.2 0 (by simp)
    go_wp2_with (first | (go_at_call 21; refine (H21L.out _).mono ?_; rintro e w' ⟨rfl, rfl⟩) | (go_at_call 37; with_reducible refine (H37.out _).mono ?_; rintro e w10 ⟨rfl, B10⟩; have hmk := HMK.out w10 (HB4.out.on B10); have hg4x : g4 < w10.heap.size := Nat.lt_of_lt_of_le hg4 (HB4.out.on B10).size) | (go_at_call 23; refine (is_same _ _ _).mono ?_; rintro e w9 ⟨rfl, rfl⟩) | (go_at_call 19; refine (awake_any _).mono ?_; rintro e wz ⟨rfl, BZ⟩))
    go_ret
    exact ⟨rfl, ((HV4.out.below.on HB4.out).on B10).on BZ⟩
set_option maxRecDepth 100000 in
set_option maxHeartbeats 4000000 in
theorem sume_tn (a b s1 s2 s3 : ByteArray) (e1 e2 e3 : Int) (p : Addr) (cap : Nat)
    (H32 : Hid (∀ w : World, Calls Try.prog 32 #[.string a, .string b] w fun e w' => e = .returned (.tuple #[.string ⟨#[]⟩, .int .i64 2]) ∧ Below w.heap.size w w'))
    (H33 : Hid (∀ w : World, Calls Try.prog 33 #[.string a, .string b] w fun e w' => e = .returned (.tuple #[.string ⟨#[]⟩, .int .i64 2]) ∧ Below w.heap.size w w'))
    (H34 : Hid (∀ (w : World) (g cap : Nat), VRow w (some ⟨g, 0, none⟩) cap [] → Calls Try.prog 34 #[.slice (some ⟨g, 0, none⟩) 0 cap] w fun e w' => e = .returned (.tuple #[.string s3, .int .i64 e3]) ∧ Below w.heap.size w w'))
    (H21 : Hid (∀ w : World, Calls Try.prog 21 #[.slice (some ⟨w.heap.size, 0, none⟩) 2 2] (w.alloc (.cells #[.string a, .string b] 22)) fun e w' => e = .returned (.bool true) ∧ Below w.heap.size w w'))
    (H21L : Hid (∀ w : World, Calls Try.prog 21 #[.slice none 0 0] w fun e w' => e = .returned (.bool false) ∧ w = w'))
    (H37 : Hid (∀ w : World, Calls Try.prog 37 #[.slice none 0 0] w fun e w' => e = .returned (.tuple #[.string s3, .int .i64 e3]) ∧ Below w.heap.size w w')) (w : World) :
    Calls Try.prog 9 #[.string a, .string b, .slice none 0 0] w fun e w' => e = .returned (.bool true) ∧ Below w.heap.size w w' := by
  go_enter Try.func9, Try.ntmps9
  go_wp2_with (first | (go_at_call 32; with_reducible refine (H32.out _).mono ?_; rintro e w1 ⟨rfl, B1⟩) | (go_at_call 33; with_reducible refine (H33.out _).mono ?_; rintro e w2 ⟨rfl, B2⟩) | (at_builtin; refine VOwn.push rfl _ _ 43 rfl Try.underlying43 info22 rfl w (VOwn.nil 22 (B1.on B2)) (.string ⟨#[109, 97, 114, 107]⟩) rfl rfl rfl (by simp) ?_; intro g4 c4 w4 hc4 hg4; simp only [List.length_nil, Nat.zero_add, List.nil_append] at hc4 ⊢; have HV4 := Lib.hid hc4; have hc4n : 1 ≤ c4 := hc4.row.1; have hc4m : c4 ≤ 9223372036854775807 := hc4.row.2.1; clear hc4) | (go_at_call 34; refine (H34.out _ _ _ (VOwn.front (V := []) (U := [.string ⟨#[109, 97, 114, 107]⟩]) HV4.out (Below.refl _ _))).mono ?_; rintro e w5 ⟨rfl, B5⟩) | (go_at_call 21; refine (H21.out _).mono ?_; rintro e w6 ⟨rfl, B6⟩) | (go_at_call 35; with_reducible refine (H35.out _).mono ?_; rintro e w7 ⟨rfl, B7⟩) | (go_at_call 36; with_reducible refine (H36.out _).mono ?_; rintro e w8 ⟨rfl, B8⟩) | (go_at_call 23; refine (is_same _ _ _).mono ?_; rintro e w9 ⟨rfl, rfl⟩))
  go_loopw [18, 19] (fun vs vi wr => vi = .int .i64 0 ∧ vs = .slice none 0 0 ∧ Hid (Below w4.heap.size w4 wr)) (fun _ vi _ => (intOf vi).toNat)
  case atStart => exact ⟨rfl, rfl, B5.on B6⟩
  case round =>
    obtain ⟨rfl, rfl, HB4⟩ := hrel
    have HMK : Hid (∀ W, Below w4.heap.size w4 W → W.cell? ⟨g4, 0, none⟩ = some (.string ⟨#[109, 97, 114, 107]⟩)) := fun W hW => by
      rw [hW.cell (p := ⟨g4, 0, none⟩) hg4]
      exact HV4.out.row.2.2.2.2 0 (by simp)
    go_wp2_with (first | (go_at_call 21; refine (H21L.out _).mono ?_; rintro e w' ⟨rfl, rfl⟩) | (go_at_call 37; with_reducible refine (H37.out _).mono ?_; rintro e w10 ⟨rfl, B10⟩; have hmk := HMK.out w10 (HB4.out.on B10); have hg4x : g4 < w10.heap.size := Nat.lt_of_lt_of_le hg4 (HB4.out.on B10).size) | (go_at_call 23; refine (is_same _ _ _).mono ?_; rintro e w9 ⟨rfl, rfl⟩) | (go_at_call 19; refine (awake_any _).mono ?_; rintro e wz ⟨rfl, BZ⟩))
    go_ret
    exact ⟨rfl, ((HV4.out.below.on HB4.out).on B10).on BZ⟩
set_option maxRecDepth 100000 in
set_option maxHeartbeats 4000000 in
theorem sume_fs (a b s1 s2 s3 : ByteArray) (e1 e2 e3 : Int) (p : Addr) (cap : Nat)
    (H32 : Hid (∀ w : World, Calls Try.prog 32 #[.string a, .string b] w fun e w' => e = .returned (.tuple #[.string s1, .int .i64 e1]) ∧ Below w.heap.size w w'))
    (H33 : Hid (∀ w : World, Calls Try.prog 33 #[.string a, .string b] w fun e w' => e = .returned (.tuple #[.string s2, .int .i64 e2]) ∧ Below w.heap.size w w'))
    (H34 : Hid (∀ (w : World) (g cap : Nat), VRow w (some ⟨g, 0, none⟩) cap [] → Calls Try.prog 34 #[.slice (some ⟨g, 0, none⟩) 0 cap] w fun e w' => e = .returned (.tuple #[.string s3, .int .i64 e3]) ∧ Below w.heap.size w w'))
    (H21 : Hid (∀ w : World, Calls Try.prog 21 #[.slice (some ⟨w.heap.size, 0, none⟩) 2 2] (w.alloc (.cells #[.string a, .string b] 22)) fun e w' => e = .returned (.bool false) ∧ Below w.heap.size w w'))
    (H21L : Hid (∀ w : World, Calls Try.prog 21 #[.slice (some p) 0 cap] w fun e w' => e = .returned (.bool false) ∧ w = w'))
    (H37 : Hid (∀ w : World, Calls Try.prog 37 #[.slice none 0 0] w fun e w' => e = .returned (.tuple #[.string s3, .int .i64 e3]) ∧ Below w.heap.size w w'))
    (H35 : Hid (∀ w : World, Calls Try.prog 35 #[.string a, .string b] w fun e w' => e = .returned (.tuple #[.string s1, .int .i64 e1]) ∧ Below w.heap.size w w'))
    (H36 : Hid (∀ w : World, Calls Try.prog 36 #[.string a, .string b] w fun e w' => e = .returned (.tuple #[.string s2, .int .i64 e2]) ∧ Below w.heap.size w w')) (w : World) :
    Calls Try.prog 9 #[.string a, .string b, .slice (some p) 0 cap] w fun e w' => e = .returned (.bool true) ∧ Below w.heap.size w w' := by
  go_enter Try.func9, Try.ntmps9
  go_wp2_with (first | (go_at_call 32; with_reducible refine (H32.out _).mono ?_; rintro e w1 ⟨rfl, B1⟩) | (go_at_call 33; with_reducible refine (H33.out _).mono ?_; rintro e w2 ⟨rfl, B2⟩) | (at_builtin; refine VOwn.copy rfl _ _ 43 rfl Try.underlying43 info22 rfl w (B1.on B2) rfl p cap [] (by simp) rfl (by simp) (by simp) ?_; intro v3 w3 hc3; have HV3 := Lib.hid hc3; clear hc3) | (at_builtin; refine VOwn.push rfl _ _ 43 rfl Try.underlying43 info22 rfl w HV3.out (.string ⟨#[109, 97, 114, 107]⟩) rfl rfl rfl (by simp) ?_; intro g4 c4 w4 hc4 hg4; simp only [List.length_nil, Nat.zero_add, List.nil_append] at hc4 ⊢; have HV4 := Lib.hid hc4; have hc4n : 1 ≤ c4 := hc4.row.1; have hc4m : c4 ≤ 9223372036854775807 := hc4.row.2.1; clear hc4) | (go_at_call 34; refine (H34.out _ _ _ (VOwn.front (V := []) (U := [.string ⟨#[109, 97, 114, 107]⟩]) HV4.out (Below.refl _ _))).mono ?_; rintro e w5 ⟨rfl, B5⟩) | (go_at_call 21; refine (H21.out _).mono ?_; rintro e w6 ⟨rfl, B6⟩) | (go_at_call 35; with_reducible refine (H35.out _).mono ?_; rintro e w7 ⟨rfl, B7⟩) | (go_at_call 36; with_reducible refine (H36.out _).mono ?_; rintro e w8 ⟨rfl, B8⟩) | (go_at_call 23; refine (is_same _ _ _).mono ?_; rintro e w9 ⟨rfl, rfl⟩))
  go_loopw [18, 19] (fun vs vi wr => vi = .int .i64 0 ∧ vs = .slice none 0 0 ∧ Hid (Below w4.heap.size w4 wr)) (fun _ vi _ => (intOf vi).toNat)
  case atStart => exact ⟨rfl, rfl, ((B5.on B6).on B7).on B8⟩
  case round =>
    obtain ⟨rfl, rfl, HB4⟩ := hrel
    have HMK : Hid (∀ W, Below w4.heap.size w4 W → W.cell? ⟨g4, 0, none⟩ = some (.string ⟨#[109, 97, 114, 107]⟩)) := fun W hW => by
      rw [hW.cell (p := ⟨g4, 0, none⟩) hg4]
      exact HV4.out.row.2.2.2.2 0 (by simp)
    go_wp2_with (first | (go_at_call 21; refine (H21L.out _).mono ?_; rintro e w' ⟨rfl, rfl⟩) | (go_at_call 37; with_reducible refine (H37.out _).mono ?_; rintro e w10 ⟨rfl, B10⟩; have hmk := HMK.out w10 (HB4.out.on B10); have hg4x : g4 < w10.heap.size := Nat.lt_of_lt_of_le hg4 (HB4.out.on B10).size) | (go_at_call 23; refine (is_same _ _ _).mono ?_; rintro e w9 ⟨rfl, rfl⟩) | (go_at_call 19; refine (awake_any _).mono ?_; rintro e wz ⟨rfl, BZ⟩))
    go_ret
    exact ⟨rfl, ((HV4.out.below.on HB4.out).on B10).on BZ⟩
set_option maxRecDepth 100000 in
set_option maxHeartbeats 4000000 in
theorem sume_ts (a b s1 s2 s3 : ByteArray) (e1 e2 e3 : Int) (p : Addr) (cap : Nat)
    (H32 : Hid (∀ w : World, Calls Try.prog 32 #[.string a, .string b] w fun e w' => e = .returned (.tuple #[.string ⟨#[]⟩, .int .i64 2]) ∧ Below w.heap.size w w'))
    (H33 : Hid (∀ w : World, Calls Try.prog 33 #[.string a, .string b] w fun e w' => e = .returned (.tuple #[.string ⟨#[]⟩, .int .i64 2]) ∧ Below w.heap.size w w'))
    (H34 : Hid (∀ (w : World) (g cap : Nat), VRow w (some ⟨g, 0, none⟩) cap [] → Calls Try.prog 34 #[.slice (some ⟨g, 0, none⟩) 0 cap] w fun e w' => e = .returned (.tuple #[.string s3, .int .i64 e3]) ∧ Below w.heap.size w w'))
    (H21 : Hid (∀ w : World, Calls Try.prog 21 #[.slice (some ⟨w.heap.size, 0, none⟩) 2 2] (w.alloc (.cells #[.string a, .string b] 22)) fun e w' => e = .returned (.bool true) ∧ Below w.heap.size w w'))
    (H21L : Hid (∀ w : World, Calls Try.prog 21 #[.slice (some p) 0 cap] w fun e w' => e = .returned (.bool false) ∧ w = w'))
    (H37 : Hid (∀ w : World, Calls Try.prog 37 #[.slice none 0 0] w fun e w' => e = .returned (.tuple #[.string s3, .int .i64 e3]) ∧ Below w.heap.size w w')) (w : World) :
    Calls Try.prog 9 #[.string a, .string b, .slice (some p) 0 cap] w fun e w' => e = .returned (.bool true) ∧ Below w.heap.size w w' := by
  go_enter Try.func9, Try.ntmps9
  go_wp2_with (first | (go_at_call 32; with_reducible refine (H32.out _).mono ?_; rintro e w1 ⟨rfl, B1⟩) | (go_at_call 33; with_reducible refine (H33.out _).mono ?_; rintro e w2 ⟨rfl, B2⟩) | (at_builtin; refine VOwn.copy rfl _ _ 43 rfl Try.underlying43 info22 rfl w (B1.on B2) rfl p cap [] (by simp) rfl (by simp) (by simp) ?_; intro v3 w3 hc3; have HV3 := Lib.hid hc3; clear hc3) | (at_builtin; refine VOwn.push rfl _ _ 43 rfl Try.underlying43 info22 rfl w HV3.out (.string ⟨#[109, 97, 114, 107]⟩) rfl rfl rfl (by simp) ?_; intro g4 c4 w4 hc4 hg4; simp only [List.length_nil, Nat.zero_add, List.nil_append] at hc4 ⊢; have HV4 := Lib.hid hc4; have hc4n : 1 ≤ c4 := hc4.row.1; have hc4m : c4 ≤ 9223372036854775807 := hc4.row.2.1; clear hc4) | (go_at_call 34; refine (H34.out _ _ _ (VOwn.front (V := []) (U := [.string ⟨#[109, 97, 114, 107]⟩]) HV4.out (Below.refl _ _))).mono ?_; rintro e w5 ⟨rfl, B5⟩) | (go_at_call 21; refine (H21.out _).mono ?_; rintro e w6 ⟨rfl, B6⟩) | (go_at_call 35; with_reducible refine (H35.out _).mono ?_; rintro e w7 ⟨rfl, B7⟩) | (go_at_call 36; with_reducible refine (H36.out _).mono ?_; rintro e w8 ⟨rfl, B8⟩) | (go_at_call 23; refine (is_same _ _ _).mono ?_; rintro e w9 ⟨rfl, rfl⟩))
  go_loopw [18, 19] (fun vs vi wr => vi = .int .i64 0 ∧ vs = .slice none 0 0 ∧ Hid (Below w4.heap.size w4 wr)) (fun _ vi _ => (intOf vi).toNat)
  case atStart => exact ⟨rfl, rfl, B5.on B6⟩
  case round =>
    obtain ⟨rfl, rfl, HB4⟩ := hrel
    have HMK : Hid (∀ W, Below w4.heap.size w4 W → W.cell? ⟨g4, 0, none⟩ = some (.string ⟨#[109, 97, 114, 107]⟩)) := fun W hW => by
      rw [hW.cell (p := ⟨g4, 0, none⟩) hg4]
      exact HV4.out.row.2.2.2.2 0 (by simp)
    go_wp2_with (first | (go_at_call 21; refine (H21L.out _).mono ?_; rintro e w' ⟨rfl, rfl⟩) | (go_at_call 37; with_reducible refine (H37.out _).mono ?_; rintro e w10 ⟨rfl, B10⟩; have hmk := HMK.out w10 (HB4.out.on B10); have hg4x : g4 < w10.heap.size := Nat.lt_of_lt_of_le hg4 (HB4.out.on B10).size) | (go_at_call 23; refine (is_same _ _ _).mono ?_; rintro e w9 ⟨rfl, rfl⟩) | (go_at_call 19; refine (awake_any _).mono ?_; rintro e wz ⟨rfl, BZ⟩))
    go_ret
    exact ⟨rfl, ((HV4.out.below.on HB4.out).on B10).on BZ⟩
end Go.Proofs.Ytfhkpkebiinglaa
