/-
  The walks of the sums of lists, and of the calls that each statement asks besides.
-/
import Derived.Test.YtoihdhmgjfoclaaWc
namespace Go.Proofs.Ytoihdhmgjfoclaa
open Go.RowKit

def sumStep (s : Option Nat × Option Nat) (z : Nat × Nat) : Option Nat × Option Nat := (fo .add s.1 (cn z.1), fo .add s.2 (cn z.2))
def sumO (l : List (Nat × Nat)) : Option Nat × Option Nat := l.foldl sumStep (some 0, some 0)
theorem sumO_snoc (l : List (Nat × Nat)) (k : Nat) (h : k < l.length) : sumO (l.take (k + 1)) = sumStep (sumO (l.take k)) l[k] := by
  unfold sumO
  rw [List.take_succ_eq_append_getElem h, List.foldl_append]; rfl
theorem sumO_zero (l : List (Nat × Nat)) : sumO (l.take 0) = (some 0, some 0) := by rw [List.take_zero]; rfl

theorem sum_any (b off cap : Nat) (xs : List (Nat × Nat)) (hn : xs.length ≤ 9223372036854775807) (w : World)
    (hc : ∀ k (h : k < xs.length), w.cell? ⟨b, off + k, none⟩ = some (.complex .f64 xs[k].1 xs[k].2)) :
    Calls Try.prog 39 #[.slice (some ⟨b, off, none⟩) xs.length cap] w fun e w' => ∃ re im n, e = .returned (.complex .f64 re im) ∧ w' = w.drewN n ∧ FV re (sumO xs).1 ∧ FV im (sumO xs).2 := by
  go_enter Try.func39, Try.ntmps39
  have HC := Lib.hid hc
  clear hc
  go_wp2
  go_loopw [3, 8] (fun s i wr => ∃ k re im n, k ≤ xs.length ∧ i = .int .i64 ((k : Nat) : Int) ∧ s = .complex .f64 re im ∧ wr = w.drewN n ∧ FV re (sumO (xs.take k)).1 ∧ FV im (sumO (xs.take k)).2) (fun _ i _ => xs.length - (intOf i).toNat)
  case atStart => exact ⟨0, 0, 0, 0, Nat.zero_le _, rfl, rfl, rfl, by rw [sumO_zero]; exact ⟨cn_self_zero, by omega⟩, by rw [sumO_zero]; exact ⟨cn_self_zero, by omega⟩⟩
  case round =>
    obtain ⟨k, re, im, n, hk, rfl, rfl, rfl, h1, h2⟩ := hrel
    by_cases hlt : k < xs.length
    · have hcell := HC.out k hlt
      have hs := sumO_snoc xs k hlt
      have HS := Lib.hid hs
      clear hs
      generalize xs[k] = z at hcell HS
      go_wp2_with (go_at_call 47; refine (add_any _ _ _ _ _).mono ?_; rintro e w' ⟨re', im', m, rfl, rfl, h3, h4⟩)
      go_roundw
      case rel => exact ⟨k + 1, re', im', _, by omega, by go_num, rfl, rfl, by rw [HS.out]; exact ⟨by rw [h3.cn]; unfold addR sumStep; rw [h1.cn], h3.lt⟩, by rw [HS.out]; exact ⟨by rw [h4.cn]; unfold addI sumStep; rw [h2.cn], h4.lt⟩⟩
      case measure => simp [intOf]; omega
    · go_wp2
      have e : k = xs.length := by omega
      subst e
      rw [List.take_length] at h1 h2
      go_ret
      exact ⟨_, _, _, rfl, rfl, h1, h2⟩
theorem rsum_any (b off cap : Nat) (xs : List (Nat × Nat)) (hn : xs.length ≤ 9223372036854775807) (w : World)
    (hc : ∀ k (h : k < xs.length), w.cell? ⟨b, off + k, none⟩ = some (.complex .f64 xs[k].1 xs[k].2)) :
    Calls Try.prog 40 #[.slice (some ⟨b, off, none⟩) xs.length cap] w fun e w' => ∃ re im n, e = .returned (.complex .f64 re im) ∧ w' = w.drewN n ∧ FV re (sumO xs).1 ∧ FV im (sumO xs).2 := by
  go_enter Try.func40, Try.ntmps40
  have HC := Lib.hid hc
  clear hc
  go_wp2
  go_loopw [3, 4] (fun s i wr => ∃ k re im n, k ≤ xs.length ∧ i = .int .i64 ((k : Nat) : Int) ∧ s = .complex .f64 re im ∧ wr = w.drewN n ∧ FV re (sumO (xs.take k)).1 ∧ FV im (sumO (xs.take k)).2) (fun _ i _ => xs.length - (intOf i).toNat)
  case atStart => exact ⟨0, 0, 0, 0, Nat.zero_le _, rfl, rfl, rfl, by rw [sumO_zero]; exact ⟨cn_self_zero, by omega⟩, by rw [sumO_zero]; exact ⟨cn_self_zero, by omega⟩⟩
  case round =>
    obtain ⟨k, re, im, n, hk, rfl, rfl, rfl, h1, h2⟩ := hrel
    by_cases hlt : k < xs.length
    · have hcell := HC.out k hlt
      have hs := sumO_snoc xs k hlt
      have HS := Lib.hid hs
      clear hs
      generalize xs[k] = z at hcell HS
      go_wp2_with (go_at_call 62; refine (radd_any _ _ _ _ _).mono ?_; rintro e w' ⟨re', im', m, rfl, rfl, h3, h4⟩)
      go_roundw
      case rel => exact ⟨k + 1, re', im', _, by omega, by go_num, rfl, rfl, by rw [HS.out]; exact ⟨by rw [h3.cn]; unfold addR sumStep; rw [h1.cn], h3.lt⟩, by rw [HS.out]; exact ⟨by rw [h4.cn]; unfold addI sumStep; rw [h2.cn], h4.lt⟩⟩
      case measure => simp [intOf]; omega
    · go_wp2
      have e : k = xs.length := by omega
      subst e
      rw [List.take_length] at h1 h2
      go_ret
      exact ⟨_, _, _, rfl, rfl, h1, h2⟩

theorem fv_eq {r c : Nat} {o : Option Nat} (h : FV r o) (ho : o = some c) : c = r := cn_some (h.cn.trans ho)

theorem mul12 : mulR (cn 4607182418800017408) (cn 4611686018427387904) (cn 4613937818241073152) (cn 4616189618054758400) = some 13840687554816376832 ∧
    mulI (cn 4607182418800017408) (cn 4611686018427387904) (cn 4613937818241073152) (cn 4616189618054758400) = some 4621819117588971520 := ⟨by kernel_rfl, by kernel_rfl⟩
theorem sq12 : sqR (cn 4607182418800017408) (cn 4611686018427387904) = some 13837309855095848960 ∧ sqI (cn 4607182418800017408) (cn 4611686018427387904) = some 4616189618054758400 := ⟨by kernel_rfl, by kernel_rfl⟩
theorem hi34 : hiO 4613937818241073152 4616189618054758400 = some 4617315517961601027 := by kernel_rfl
theorem lo34 : loO 4613937818241073152 4616189618054758400 = some 4617315517961601021 := by kernel_rfl
theorem hilo : ltF 4617315517961601021 4617315517961601027 = true := by kernel_rfl
def three : List (Nat × Nat) := [(4607182418800017408, 4611686018427387904), (4613937818241073152, 4616189618054758400), (4607182418800017408, 4611686018427387904)]
theorem sum3 : (sumO three).1 = some 4617315517961601024 ∧ (sumO three).2 = some 4620693217682128896 := ⟨by kernel_rfl, by kernel_rfl⟩
theorem eqc {a c : Nat} (h : isN a = false) (e : a = c) : (FloatKind.f64.format.order a c == some .eq) = true := by
  subst e; rw [order_eq, eqF_self, h]; rfl
theorem sum3_any (w : World) (b : Nat) (hb : b = w.heap.size) :
    Calls Try.prog 39 #[.slice (some ⟨b, 0, none⟩) 3 3] (w.alloc (.cells #[.complex .f64 4607182418800017408 4611686018427387904, .complex .f64 4613937818241073152 4616189618054758400, .complex .f64 4607182418800017408 4611686018427387904] 25)) fun e w' => ∃ n, e = .returned (.complex .f64 4617315517961601024 4620693217682128896) ∧ w' = (w.alloc (.cells #[.complex .f64 4607182418800017408 4611686018427387904, .complex .f64 4613937818241073152 4616189618054758400, .complex .f64 4607182418800017408 4611686018427387904] 25)).drewN n := by
  subst hb
  refine (sum_any w.heap.size 0 3 three (by decide) _ ?_).mono ?_
  · intro k h
    have h3 : k < 3 := h
    rw [World.cell?_alloc_new]
    have : k = 0 ∨ k = 1 ∨ k = 2 := by omega
    rcases this with rfl | rfl | rfl <;> rfl
  · rintro e w' ⟨re, im, n, rfl, rfl, h1, h2⟩
    obtain rfl := fv_eq h1 sum3.1
    obtain rfl := fv_eq h2 sum3.2
    exact ⟨n, rfl, rfl⟩

theorem awake_any (w : World) :
    Calls Try.prog 19 #[] w fun e w' => e = .returned (.bool true) ∧ Grown w w' := by
  have c1 : (FloatKind.f64.format.order 13840687554816376832 13840687554816376832 == some .eq) = true := by kernel_rfl
  have c2 : (FloatKind.f64.format.order 4621819117588971520 4621819117588971520 == some .eq) = true := by kernel_rfl
  have c3 : (FloatKind.f64.format.order 13837309855095848960 13837309855095848960 == some .eq) = true := by kernel_rfl
  have c4 : (FloatKind.f64.format.order 4616189618054758400 4616189618054758400 == some .eq) = true := by kernel_rfl
  have c5 : (FloatKind.f64.format.order 4617315517961601024 4617315517961601024 == some .eq) = true := by kernel_rfl
  have c6 : (FloatKind.f64.format.order 4620693217682128896 4620693217682128896 == some .eq) = true := by kernel_rfl
  have c7 : (eqF 9221120237041090561 9221120237041090561 && eqF 0 0) = false := by kernel_rfl
  have c8 : sameB 9221120237041090561 0 9221120237041090561 0 = true := by kernel_rfl
  have c9 : ltF 4617315517961601021 4617315517961601027 = true := hilo
  have c10 : kindN 9221120237041090561 0 = 2 := by kernel_rfl
  go_enter Try.func19, Try.ntmps19
  go_wp2_with (first | (go_at_call 82; go_in) | (go_at_call 28; refine (mul_any _ _ _ _ _).mono ?_; rintro e w' ⟨re, im, n, rfl, rfl, h1, h2⟩; obtain rfl := fv_eq h1 mul12.1; obtain rfl := fv_eq h2 mul12.2; clear h1 h2) | (go_at_call 57; refine (sq_any _ _ _).mono ?_; rintro e w' ⟨re, im, n, rfl, rfl, h1, h2⟩; obtain rfl := fv_eq h1 sq12.1; obtain rfl := fv_eq h2 sq12.2; clear h1 h2) | (go_at_call 39; refine (sum3_any _ _ rfl).mono ?_; rintro e w' ⟨n, rfl, rfl⟩) | (go_at_call 24; refine (same_any _ _ _ _ _).mono ?_; rintro e w' ⟨rfl, rfl⟩) | (go_at_call 43; refine (equal_any _ _ _ _ _).mono ?_; rintro e w' ⟨rfl, rfl⟩) | (go_at_call 15; refine (hi_any _ _ (by omega) (by omega) _).mono ?_; rintro e w' ⟨r, n, rfl, rfl, h1⟩; obtain rfl := fv_eq h1 hi34; clear h1) | (go_at_call 17; refine (lo_any _ _ (by omega) (by omega) _).mono ?_; rintro e w' ⟨r, n, rfl, rfl, h1⟩; obtain rfl := fv_eq h1 lo34; clear h1) | (go_at_call 49; refine (kind_any _ _ (by omega) (by omega) _).mono ?_; rintro e w' ⟨rfl, rfl⟩))
  go_ret
  exact ⟨ret_b (by kernel_rfl), (show Grown w (w.drewN _) from Grown.refl w).alloc _ _⟩

theorem grown_trans {a b c : World} (h : Grown a b) (k : Grown b c) : Grown a c :=
  ⟨World.keptBut_trans h.1 k.1, fun x => (k.2.1 x).trans (h.2.1 x), Nat.le_trans h.2.2 k.2.2⟩

end Go.Proofs.Ytoihdhmgjfoclaa
