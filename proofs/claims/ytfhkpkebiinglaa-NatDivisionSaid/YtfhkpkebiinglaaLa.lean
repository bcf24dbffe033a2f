/-
  What the laws' proofs have in common: the frame's parts; the reference's Mul; the tests is and refused.
-/
import Derived.Test.YtfhkpkebiinglaaTims
import Derived.ProofKit
import Derived.OpenShut
import Derived.SizedLaws
import Derived.ChangeMaps5
import Derived.ChangeSame
import Derived.Lib.SmallJoins
namespace Go.Proofs.Ytfhkpkebiinglaa
open Go.RowKit

theorem Try.own : ownKnob Try.prog.godebug = none := by kernel_rfl
theorem u64_bd {n : Int} (h : (Lit.int .u64 n).wf = true) : 0 ≤ n ∧ n < 18446744073709551616 := by
  simp [Lit.wf, IntKind.min, IntKind.max, IntKind.signed, IntKind.bits] at h; omega
theorem i64_bd {n : Int} (h : (Lit.int .i64 n).wf = true) : -9223372036854775808 ≤ n ∧ n < 9223372036854775808 := by
  simp [Lit.wf, IntKind.min, IntKind.max, IntKind.signed, IntKind.bits] at h; omega

open Go.WideShapes Go.ChangeShapes in
/-- The row's last step: of old memory nothing has turned. -/
theorem post_of_below {H : Type} {enc : TypeId × Value → H} {P : Program} {f : Func} {s : ChangeSpec} {apart fresh handsOn again : Bool} {W W' : World} {args : Array Value} {v : Value} {ds gs : List (DataW H)} {before pa pv : List MemPlace}
    (hW : DataW.Whole enc P f.params.toList s.vars apart W args.toList ds gs before)
    (hres : ∀ (b : Nat) (sp : Nat → Bool) (hd : Bool), DataW.TrodAll enc P W' b sp hd f.resultTypes.toList (v.resultList f.resultTypes.size) (s.fn H (ds ++ gs)).results [])
    (hargs : ∀ sp : Nat → Bool, (∀ p ∈ before, sp p.block = true) → DataW.TrodAll enc P W' 0 sp true f.params.toList args.toList (s.fn H (ds ++ gs)).args pa)
    (hvars : ∀ sp : Nat → Bool, (∀ p ∈ before, sp p.block = true) → DataW.TrodVars enc P W' sp s.vars (s.fn H (ds ++ gs)).vars pv)
    (hps : before = pa ++ pv) (hb : Below W.heap.size W W')
    (hok : ∀ (j : Nat) (t : TypeId) (r : Value), f.resultTypes[j]? = some t → (v.resultList f.resultTypes.size)[j]? = some r → Value.okWide P W' .any 0 t r) :
    s.post enc P f apart fresh handsOn again W args v W' := by
  have hlt : ∀ p ∈ before, p.block < W.heap.size := fun p hp => hW.lt p hp
  have hold : ∀ p ∈ before, (fun b => decide (b < W.heap.size)) p.block = true := fun p hp => by simpa using hlt p hp
  refine ⟨ds, gs, before, [], pa, pv, hW, hres _ _ _, hargs _ hold, hvars _ hold, World.keptBut_mono (fun p hp => ⟨hp, ?_⟩) (hb.frame (· ∈ before)), fun _ => ?_⟩
  · rw [hps, List.mem_append] at hp
    exact Or.inr hp
  · obtain ⟨_, _, _, _, _, hz, hn⟩ := hW
    refine ⟨hok, _, _, ([] ++ pa) ++ pv, ⟨[] ++ pa, pv, trodAll_append (hargs _ (fun _ _ => rfl)) (hres _ _ _), hvars _ (fun _ _ => rfl), rfl, ?_, ?_⟩, ?_⟩
    · intro b off hp
      have hin : MemPlace.cell b off ∈ before := by rw [hps]; simpa using hp
      rw [hb.frozen (hlt _ hin)]
      exact hz b off hin
    · intro ha
      have := hn ha
      rw [hps] at this
      simpa using this
    · intro p hp _
      rw [hps]
      simpa using hp
/-- Of numbers that may be, refused tells no. -/
theorem refused_two (a b : ByteArray) (w : World) (ha : a.size ≤ maxLen) (hb : b.size ≤ maxLen) (t : Bool) (ht : t = !decide (Ok a ∧ Ok b)) :
    Calls Try.prog 21 #[.slice (some ⟨w.heap.size, 0, none⟩) 2 2] (w.alloc (.cells #[.string a, .string b] 22)) fun e w' => e = .returned (.bool t) ∧ Below w.heap.size w w' := by
  have HS : ∀ s ∈ [a, b], s.size ≤ maxLen := by intro s hs; simp at hs; rcases hs with rfl | rfl <;> assumption
  refine (refused_any (some ⟨w.heap.size, 0, none⟩) 2 [a, b] _ HS (two_row a b w)).mono ?_
  rintro e w' ⟨rfl, rfl⟩
  refine ⟨?_, two_below w _⟩
  rw [ht]
  congr 3
  simp
theorem refused_one (a : ByteArray) (w : World) (ha : a.size ≤ maxLen) (t : Bool) (ht : t = !decide (Ok a)) :
    Calls Try.prog 21 #[.slice (some ⟨w.heap.size, 0, none⟩) 1 1] (w.alloc (.cells #[.string a] 22)) fun e w' => e = .returned (.bool t) ∧ Below w.heap.size w w' := by
  refine (refused_any (some ⟨w.heap.size, 0, none⟩) 1 [a] _ (by simpa using ha) (one_row a w)).mono ?_
  rintro e w' ⟨rfl, rfl⟩
  refine ⟨?_, two_below w _⟩
  rw [ht]
  congr 3
  simp
theorem refused_nil (w : World) : Calls Try.prog 21 #[.slice none 0 0] w fun e w' => e = .returned (.bool false) ∧ w = w' := by
  refine (refused_any none 0 [] w (by simp) ⟨Nat.le_refl _, Nat.zero_le _, fun i hi => absurd hi (Nat.not_lt_zero _)⟩).mono ?_
  rintro e w' ⟨rfl, rfl⟩
  exact ⟨by simp, rfl⟩
/-- is: the same text and number. -/
theorem is_same (s : ByteArray) (n : Int) (w : World) : Calls Try.prog 23 #[.string s, .int .i64 n, .string s, .int .i64 n, .slice none 0 0] w fun e w' => e = .returned (.bool true) ∧ w = w' := by
  go_enter Try.func23, Try.ntmps23
  go_wp2_with (go_at_call 21; refine (refused_nil _).mono ?_; rintro e w' ⟨rfl, rfl⟩)
  go_ret
  simp

set_option maxRecDepth 20000 in
theorem rMul_any (a b : ByteArray) (ha : Ok a) (hb : Ok b) (w : World) :
    Calls Try.prog 22 #[.string a, .string b] w fun e w' => e = .returned (endN (bval a * bval b)) ∧ Below w.heap.size w w' := by
  have ha1 := ha.1
  have hb1 := hb.1
  have hlong := mul_long a b ha hb
  by_cases hg : 16385 < a.size + b.size
  · have h1 := hlong (by omega) (by omega) hg
    have HR : Hid (endN (bval a * bval b) = .tuple #[.string ⟨#[]⟩, .int .i64 4]) := by
      show _ = _
      unfold endN endS endE
      rw [if_pos h1, if_pos h1]
    have hgz : (16385 : Int) < (a.size : Int) + b.size := by omega
    clear hlong h1 ha hb
    go_enter Try.func22, Try.ntmps22
    go_wp2
    go_ret2
    exact ⟨by rw [HR.out]; rfl, Below.refl _ _⟩
  · have HT := Lib.hid fun W => times_any a b (by omega) (by omega) W
    have HE := Lib.hid fun W => ended_enc (bval a * bval b) (by
      have h1 := bval_lt a
      have h2 := bval_lt b
      refine Nat.le_trans ((digs_len (by omega) _ (a.size + b.size)).2 ?_) (by omega)
      rw [Nat.pow_add]
      exact Nat.mul_lt_mul'' h1 h2) W
    clear hlong ha hb
    go_enter Try.func22, Try.ntmps22
    go_wp2_with (first | (go_at_call 64; refine (HT.out _).mono ?_; rintro e w1 ⟨rfl, B1⟩) | (go_at_call 63; refine (HE.out _).mono ?_; rintro e w2 ⟨rfl, rfl⟩; unfold endN))
    go_ret2
    exact ⟨rfl, B1⟩
end Go.Proofs.Ytfhkpkebiinglaa
