/-
  The walk of a polynomial at a number: real coefficients.
-/
import Derived.Test.YtinlachbnflpoaaOb
import Derived.LoopTactic
import Derived.Deep.LoopGhost
namespace Go.Proofs.Ytinlachbnflpoaa
open Go.RowKit

/-- Real coefficients as complex ones. -/
def re (C : List Nat) : List (Nat × Nat) := C.map fun c => (c, 0)
theorem re_len (C : List Nat) : (re C).length = C.length := by simp [re]
/-- The sums from the highest coefficient down. -/
structure Horner (C : List Nat) (z : Nat) (S : Nat → Nat) : Prop where
  pos : 0 < C.length
  top : ∀ (h : C.length - 1 < C.length), S (C.length - 1) = C[C.length - 1]
  step : ∀ i (h : i < C.length), i + 1 < C.length → ∃ m, mulR (cn (S (i + 1))) (cn 0) (cn z) (cn 0) = some m ∧ mulI (cn (S (i + 1))) (cn 0) (cn z) (cn 0) = some 0 ∧ addR (cn m) (cn 0) (cn C[i]) (cn 0) = some (S i)
theorem on_any (s c z m r : Nat) (s1 : mulR (cn s) (cn 0) (cn z) (cn 0) = some m) (s2 : mulI (cn s) (cn 0) (cn z) (cn 0) = some 0) (s3 : addR (cn m) (cn 0) (cn c) (cn 0) = some r) (g : Nat) (w : World) (h : w.cell? ⟨g, 0, none⟩ = some (.complex .f64 z 0)) :
    Calls Try.prog 32 #[.complex .f64 s 0, .complex .f64 c 0, .pointer (some ⟨g, 0, none⟩)] w fun e w' => e = .returned (.complex .f64 r 0) ∧ Below w.heap.size w w' := by
  have HM := Lib.hid fun W => mul_re s z m s1 s2 W
  have HA := Lib.hid fun W => add_re m c r s3 W
  clear s1 s2 s3
  go_enter Try.func32, Try.ntmps32
  go_wp2_with (first | (go_at_call 34; with_reducible refine (HM.out _).mono ?_; rintro e w2 ⟨rfl, B2⟩) | (go_at_call 33; with_reducible refine (HA.out _).mono ?_; rintro e w3 ⟨rfl, B3⟩))
  go_ret
  exact ⟨rfl, B2.on B3⟩
set_option maxRecDepth 20000 in
theorem at_any (b cap : Nat) (C : List Nat) (z : Nat) (S : Nat → Nat) (hH : Horner C z S) (w : World) (h : CRow w b cap (re C)) :
    Calls Try.prog 23 #[.slice (some ⟨b, 0, none⟩) C.length cap, .complex .f64 z 0] w fun e w' => e = .returned (.complex .f64 (S 0) 0) ∧ Below w.heap.size w w' := by
  have hle := h.le
  have hmx := h.max
  rw [re_len] at hle
  unfold maxLen at hmx
  have hlt := h.lt
  have hp := hH.pos
  have hc : ∀ i (hi : i < C.length), w.cell? ⟨b, i, none⟩ = some (.complex .f64 C[i] 0) := fun i hi => by
    have := h.cell i (by rw [re_len]; exact hi)
    simpa [re] using this
  have hc1 := hc (C.length - 1) (by omega)
  have ht := hH.top (by omega)
  rw [← ht] at hc1
  have HC := Lib.hid hc
  have HS := Lib.hid hH.step
  have hpz : ((C.length : Int) == 0) = false := by rw [beq_eq_false_iff_ne]; omega
  clear h hH hc ht
  go_enter Try.func23, Try.ntmps23
  go_wp2
  obtain ⟨w1, hw1⟩ : ∃ w1, w1 = w.alloc (.cells #[.complex .f64 z 0] 23) := ⟨_, rfl⟩
  have hbox : w1.cell? ⟨w.heap.size, 0, none⟩ = some (.complex .f64 z 0) := by rw [hw1, World.cell?_alloc_at _ _ _ _ rfl]; rfl
  have hsz : w.heap.size < w1.heap.size := by rw [hw1]; simp
  have HB1 : Hid (Below w.heap.size w w1) := by show Below _ _ _; rw [hw1]; exact alloc_below _ _
  have HBX := Lib.hid hbox
  rw [← hw1]
  have HB0 : Hid (Below w1.heap.size w1 w1) := Below.refl _ _
  clear hw1 hbox
  obtain ⟨wo, hwo⟩ : ∃ wo : World, wo = w1 := ⟨_, rfl⟩
  subst hwo
  go_loopg [9, 10] (C.length - 1) (fun g vs vk wx => ∃ i : Nat, i = g ∧ i + 1 ≤ C.length ∧ vk = .int .i64 ((i : Int) - 1) ∧ vs = .complex .f64 (S i) 0 ∧ Hid (Below wo.heap.size wo wx))
  case atStart => exact ⟨C.length - 1, rfl, by omega, by congr 1; omega, rfl, HB0⟩
  case round =>
    obtain ⟨i, rfl, hi, rfl, rfl, HB⟩ := hrel
    clear HB0
    by_cases h0 : i = 0
    · subst h0
      clear hc1
      go_wp2
      go_ret
      exact ⟨rfl, HB1.out.trans (HB.out.mono (Nat.le_of_lt hsz))⟩
    · obtain ⟨j, rfl⟩ : ∃ j, i = j + 1 := ⟨i - 1, by omega⟩
      have hji : ((j + 1 : Nat) : Int) - 1 = (j : Int) := by omega
      rw [hji]
      obtain ⟨m, s1, s2, s3⟩ := HS.out j (by omega) (by omega)
      have hcj := (HB.out.cell (p := ⟨b, j, none⟩) (Nat.lt_trans hlt hsz)).trans ((HB1.out.cell (p := ⟨b, j, none⟩) hlt).trans (HC.out j (by omega)))
      have hbx := (HB.out.cell (p := ⟨w.heap.size, 0, none⟩) hsz).trans HBX.out
      have hs2 : w.heap.size < wr.heap.size := Nat.lt_of_lt_of_le hsz HB.out.size
      have hs3 : b < wr.heap.size := Nat.lt_trans hlt hs2
      have HON := Lib.hid (on_any (S (j + 1)) C[j] z m (S j) s1 s2 s3 w.heap.size wr hbx)
      generalize C[j] = cj at *
      clear s1 s2 s3 hc1 hbx
      go_wp2_with (first | (go_at_call 32; with_reducible refine HON.out.mono ?_; rintro e w2 ⟨rfl, B2⟩))
      go_roundg j
      case measure => omega
      case rel => exact ⟨j, rfl, by omega, rfl, rfl, HB.out.on B2⟩
set_option maxRecDepth 20000 in
theorem pat_any (b cap : Nat) (C : List Nat) (z : Nat) (S : Nat → Nat) (hH : Horner C z S) (hP : PolyOk (re C)) (w : World) (h : CRow w b cap (re C)) :
    Calls Try.prog 16 #[.slice (some ⟨b, 0, none⟩) C.length cap, .complex .f64 z 0] w fun e w' => e = .returned (.tuple #[.complex .f64 (S 0) 0, .int .i64 0]) ∧ Below w.heap.size w w' := by
  have hall := all_one hP w h
  rw [re_len] at hall
  have HALL := Lib.hid hall
  have hrow := h.below (alloc_below w (.cells #[.slice (some ⟨b, 0, none⟩) C.length cap] 25))
  have HAT := Lib.hid (at_any b cap C z S hH _ hrow)
  have HB := Lib.hid (alloc_below w (.cells #[.slice (some ⟨b, 0, none⟩) C.length cap] 25))
  clear hall hrow h hH hP
  go_enter Try.func16, Try.ntmps16
  go_wp2_with (first | (go_at_call 22; with_reducible refine HALL.out.mono ?_; rintro e w2 ⟨rfl, hw2⟩; have HAT2 := HAT.out; have HB2 := HB.out; rw [hw2] at HAT2 HB2; clear hw2) | (go_at_call 23; with_reducible refine HAT2.mono ?_; rintro e w3 ⟨rfl, B3⟩))
  go_ret2
  exact ⟨rfl, HB2.on B3⟩
end Go.Proofs.Ytinlachbnflpoaa
