/-
  The walks of the sums of products, the program's and the document's.
-/
import Derived.Test.YtoihdhmgjfoclaaWd
import Derived.Deep.RegionHeld3
namespace Go.Proofs.Ytoihdhmgjfoclaa
open Go.RowKit

def dotStep (s : Option Nat × Option Nat) (z : (Nat × Nat) × (Nat × Nat)) : Option Nat × Option Nat :=
  (fo .add s.1 (mulR (cn z.1.1) (cn z.1.2) (cn z.2.1) (cn z.2.2)), fo .add s.2 (mulI (cn z.1.1) (cn z.1.2) (cn z.2.1) (cn z.2.2)))
def dotO (l : List ((Nat × Nat) × (Nat × Nat))) : Option Nat × Option Nat := l.foldl dotStep (some 0, some 0)
theorem dotO_snoc (l : List ((Nat × Nat) × (Nat × Nat))) (k : Nat) (h : k < l.length) : dotO (l.take (k + 1)) = dotStep (dotO (l.take k)) l[k] := by
  unfold dotO
  rw [List.take_succ_eq_append_getElem h, List.foldl_append]; rfl
theorem dotO_zero (l : List ((Nat × Nat) × (Nat × Nat))) : dotO (l.take 0) = (some 0, some 0) := by rw [List.take_zero]; rfl
theorem dotStep_zip {re im re' im' : Nat} {s : Option Nat × Option Nat} {z : (Nat × Nat) × (Nat × Nat)} {pr pi : Nat} (h1 : FV re s.1) (h2 : FV im s.2)
    (h3 : FV pr (mulR (cn z.1.1) (cn z.1.2) (cn z.2.1) (cn z.2.2))) (h4 : FV pi (mulI (cn z.1.1) (cn z.1.2) (cn z.2.1) (cn z.2.2)))
    (h5 : FV re' (addR (cn re) (cn im) (cn pr) (cn pi))) (h6 : FV im' (addI (cn re) (cn im) (cn pr) (cn pi))) : FV re' (dotStep s z).1 ∧ FV im' (dotStep s z).2 := by
  unfold addR at h5
  unfold addI at h6
  rw [h1.cn, h3.cn] at h5
  rw [h2.cn, h4.cn] at h6
  exact ⟨h5, h6⟩

theorem dot_no (u v : Option Addr) (m n c d : Nat) (hne : ((m : Int) != n) = true) (w : World) :
    Calls Try.prog 41 #[.slice u m c, .slice v n d] w fun e w' => e = .returned (.tuple #[.complex .f64 0 0, .int .i64 2]) ∧ w' = w := by
  go_enter Try.func41, Try.ntmps41
  go_wp2
  go_ret2
  exact ⟨rfl, rfl⟩

/-- So many draws later. -/
def DrewBy (a b : World) : Prop := ∃ n, b = a.drewN n
theorem DrewBy.drew {a b : World} (h : DrewBy a b) : DrewBy a b.drew := by obtain ⟨n, rfl⟩ := h; exact ⟨n + 1, rfl⟩
theorem DrewBy.drewN {a b : World} (h : DrewBy a b) (m : Nat) : DrewBy a (b.drewN m) := by obtain ⟨n, rfl⟩ := h; exact ⟨n + m, by rw [World.drewN_drewN]⟩

/-- Two lists in memory, side by side. -/
def TwoAt (w : World) (b b' : Nat) (l : List ((Nat × Nat) × (Nat × Nat))) : Prop :=
  ∀ k (h : k < l.length), w.cell? ⟨b, k, none⟩ = some (.complex .f64 l[k].1.1 l[k].1.2) ∧ w.cell? ⟨b', k, none⟩ = some (.complex .f64 l[k].2.1 l[k].2.2)

set_option maxHeartbeats 1000000 in
theorem dot_any (b b' c d : Nat) (l : List ((Nat × Nat) × (Nat × Nat))) (hn : l.length ≤ 9223372036854775807) (w : World) (hc : TwoAt w b b' l) :
    Calls Try.prog 41 #[.slice (some ⟨b, 0, none⟩) l.length c, .slice (some ⟨b', 0, none⟩) l.length d] w fun e w' => ∃ re im n, e = .returned (.tuple #[.complex .f64 re im, .int .i64 0]) ∧ w' = w.drewN n ∧ FV re (dotO l).1 ∧ FV im (dotO l).2 := by
  go_enter Try.func41, Try.ntmps41
  have HC := Lib.hid hc
  clear hc
  go_wp2
  go_loopw [6, 16] (fun s i wr => ∃ k re im n, k ≤ l.length ∧ i = .int .i64 ((k : Nat) : Int) ∧ s = .complex .f64 re im ∧ wr = w.drewN n ∧ FV re (dotO (l.take k)).1 ∧ FV im (dotO (l.take k)).2) (fun _ i _ => l.length - (intOf i).toNat)
  case atStart => exact ⟨0, 0, 0, 0, Nat.zero_le _, rfl, rfl, rfl, by rw [dotO_zero]; exact ⟨cn_self_zero, by omega⟩, by rw [dotO_zero]; exact ⟨cn_self_zero, by omega⟩⟩
  case round =>
    obtain ⟨k, re, im, n, hk, rfl, rfl, rfl, h1, h2⟩ := hrel
    by_cases hlt : k < l.length
    · obtain ⟨hc1, hc2⟩ := HC.out k hlt
      have hs := dotO_snoc l k hlt
      have HS := Lib.hid hs
      clear hs
      generalize l[k] = z at hc1 hc2 HS
      go_wp2_with (first | (go_at_call 28; refine (mul_any _ _ _ _ _).mono ?_; rintro e w' ⟨pr, pi, m, rfl, rfl, h3, h4⟩) | (go_at_call 47; refine (add_any _ _ _ _ _).mono ?_; rintro e w' ⟨re', im', m', rfl, rfl, h5, h6⟩))
      go_roundw
      case rel => exact ⟨k + 1, re', im', _, by omega, by go_num, rfl, rfl, by rw [HS.out]; exact (dotStep_zip h1 h2 h3 h4 h5 h6).1, by rw [HS.out]; exact (dotStep_zip h1 h2 h3 h4 h5 h6).2⟩
      case measure => simp [intOf]; omega
    · go_wp2
      have e : k = l.length := by omega
      subst e
      rw [List.take_length] at h1 h2
      go_ret2
      exact ⟨_, _, _, rfl, rfl, h1, h2⟩

set_option maxHeartbeats 1000000 in
theorem rdot_any (b b' c d : Nat) (l : List ((Nat × Nat) × (Nat × Nat))) (hn : l.length ≤ 9223372036854775807) (w : World) (hc : TwoAt w b b' l) :
    Calls Try.prog 42 #[.slice (some ⟨b, 0, none⟩) l.length c, .slice (some ⟨b', 0, none⟩) l.length d] w fun e w' => ∃ re im n, e = .returned (.complex .f64 re im) ∧ w' = w.drewN n ∧ FV re (dotO l).1 ∧ FV im (dotO l).2 := by
  go_enter Try.func42, Try.ntmps42
  have HC := Lib.hid hc
  clear hc
  go_wp2
  go_loopw [5, 6] (fun s i wr => ∃ k re im, k ≤ l.length ∧ i = .int .i64 ((k : Nat) : Int) ∧ s = .complex .f64 re im ∧ DrewBy w wr ∧ FV re (dotO (l.take k)).1 ∧ FV im (dotO (l.take k)).2) (fun _ i _ => l.length - (intOf i).toNat)
  case atStart => exact ⟨0, 0, 0, Nat.zero_le _, rfl, rfl, ⟨0, rfl⟩, by rw [dotO_zero]; exact ⟨cn_self_zero, by omega⟩, by rw [dotO_zero]; exact ⟨cn_self_zero, by omega⟩⟩
  case round =>
    obtain ⟨k, re, im, hk, rfl, rfl, hwr, h1, h2⟩ := hrel
    by_cases hlt : k < l.length
    · obtain ⟨hc1', hc2'⟩ := HC.out k hlt
      have hc1 : wr.cell? ⟨b, k, none⟩ = some (.complex .f64 l[k].1.1 l[k].1.2) := by obtain ⟨n, rfl⟩ := hwr; exact hc1'
      have hc2 : wr.cell? ⟨b', k, none⟩ = some (.complex .f64 l[k].2.1 l[k].2.2) := by obtain ⟨n, rfl⟩ := hwr; exact hc2'
      have hs := dotO_snoc l k hlt
      have HS := Lib.hid hs
      clear hs hc1' hc2'
      generalize l[k] = z at hc1 hc2 HS
      go_wp2
      go_region_held3 (fun W => DrewBy w W ∧ W.cell? ⟨b, k, none⟩ = some (.complex .f64 z.1.1 z.1.2) ∧ W.cell? ⟨b', k, none⟩ = some (.complex .f64 z.2.1 z.2.2)) (exact ⟨by first | assumption | exact DrewBy.drew (by assumption) | exact DrewBy.drewN (by assumption) _, by assumption, by assumption⟩) (first | (go_at_call 38; refine (rmul_any _ _ _ _ _).mono ?_; rintro e w' ⟨pr, pi, m, rfl, rfl, h3, h4⟩) | (go_at_call 62; refine (radd_any _ _ _ _ _).mono ?_; rintro e w' ⟨re', im', m', rfl, rfl, h5, h6⟩))
      go_wp2
      go_roundw
      case rel => exact ⟨k + 1, re', im', by omega, by go_num, rfl, by first | assumption | exact DrewBy.drew (by assumption) | exact DrewBy.drewN (by assumption) _, by rw [HS.out]; exact (dotStep_zip h1 h2 h3 h4 h5 h6).1, by rw [HS.out]; exact (dotStep_zip h1 h2 h3 h4 h5 h6).2⟩
      case measure => simp [intOf]; omega
    · go_wp2
      have e : k = l.length := by omega
      subst e
      rw [List.take_length] at h1 h2
      obtain ⟨n, rfl⟩ := hwr
      go_ret
      exact ⟨_, _, _, rfl, rfl, h1, h2⟩
end Go.Proofs.Ytoihdhmgjfoclaa
