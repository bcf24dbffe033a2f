/-
  Wide's whole numbers: NewInt of -1, Uint64, Exp of 2.
-/
import Derived.Test.YtacpakmglmfgnaaWj
namespace Go.Proofs.Ytacpakmglmfgnaa
open Go.RowKit

set_option maxRecDepth 20000 in
theorem laid_rec (z n cap : Nat) (ao : Option Addr) (w : World) (hz : Rec w z) :
    Calls Try.prog 50 #[.pointer (some ⟨z, 0, none⟩), .bool false, .slice ao n cap] w fun e w' => e = .returned (.pointer (some ⟨z, 0, none⟩)) ∧ Rec w' z ∧ Below z w w' := by
  obtain ⟨o0, h0⟩ := hz.c0
  obtain ⟨o1, h1⟩ := hz.c1
  have f0 := hz.f 0
  have f1 := hz.f 1
  have hzl := hz.lt
  have h1' : ∀ u, (w.setCell ⟨z, 0, none⟩ u).cell? ⟨z, 1, none⟩ = some o1 := fun u => by rw [cell_off _ _ _ _ _ (by omega)]; exact h1
  have HF := Lib.hid hz.f
  clear hz
  go_enter Try.func50, Try.ntmps50
  go_wp2
  go_ret
  obtain ⟨r0, r1, r2⟩ := two_set w z (.bool false) (.slice ao n cap) o0 o1 h0 h1
  exact ⟨rfl, ⟨by simp only [World.size_setCell]; exact hzl, ⟨_, r0⟩, ⟨_, r1⟩, fun i => by rw [World.frozen?_setCell, World.frozen?_setCell]; exact HF.out i⟩, r2 z (Nat.le_refl _)⟩
theorem setu_big (z x : Nat) (hx : x < 18446744073709551616) (w : World) (hz : Rec w z) :
    Calls Try.prog 37 #[.pointer (some ⟨z, 0, none⟩), .int .u64 (x : Nat)] w fun e w' => e = .returned (.pointer (some ⟨z, 0, none⟩)) ∧ Rec w' z ∧ Below z w w' := by
  have e1 : (x : Int) / 4294967296 % 4294967296 = ((x / 4294967296 : Nat) : Int) := by omega
  have e2 : (x : Int) / 4294967296 = ((x / 4294967296 : Nat) : Int) := by omega
  have e3 : (x : Int) % 4294967296 = ((x % 4294967296 : Nat) : Int) := by omega
  have hl0 : x % 4294967296 < 4294967296 := Nat.mod_lt _ (by omega)
  have hl1 : x / 4294967296 < 4294967296 := by omega
  generalize x / 4294967296 = p at *
  generalize x % 4294967296 = q at *
  have hrow := limb_row q p w
  have hL : ∀ d ∈ [q, p], d < 4294967296 := two_lt hl0 hl1
  have HC := Lib.hid (wcut_any _ 2 [q, p] hL _ hrow)
  have hzl := hz.lt
  have HL := Lib.hid fun n => laid_rec z n 2 (some ⟨w.heap.size, 0, none⟩) _ (hz.on (alloc_below w (.cells #[.int .u32 ((q : Nat) : Int), .int .u32 ((p : Nat) : Int)] 84)) hzl)
  have HB := Lib.hid (alloc_below w (.cells #[.int .u32 ((q : Nat) : Int), .int .u32 ((p : Nat) : Int)] 84))
  clear hrow hL hz
  generalize (digs 4294967296 (dval 4294967296 [q, p])).length = n at *
  go_enter Try.func37, Try.ntmps37
  go_wp2_with (first | (go_at_call 54; refine HC.out.mono ?_; rintro e w1 ⟨rfl, rfl⟩) | (go_at_call 50; refine (HL.out _).mono ?_; rintro e w1 ⟨rfl, I1, B1⟩))
  go_ret
  exact ⟨rfl, I1, (HB.out.mono (by omega)).trans B1⟩
set_option maxHeartbeats 1000000 in
set_option maxRecDepth 20000 in
theorem newint_neg (w : World) :
    Calls Try.prog 22 #[.int .i64 (-1)] w fun e w' => e = .returned (.pointer (some ⟨w.heap.size, 0, none⟩)) ∧ IntAt w.heap.size w'.heap.size w' w.heap.size true 1 ∧ Below w.heap.size w w' := by
  have HS := Lib.hid (setu_big w.heap.size 18446744073709551615 (by omega) _ (rec_new w (.bool false) (.slice none 0 0) 71))
  have HT := Lib.hid fun W (h : Rec W w.heap.size) => setu_any w.heap.size 1 (by omega) W h
  have HB := Lib.hid (alloc_below w (.cells #[.bool false, .slice none 0 0] 71))
  rw [show ((18446744073709551615 : Nat) : Int) = 18446744073709551615 from rfl] at HS
  rw [show ((1 : Nat) : Int) = 1 from rfl] at HT
  go_enter Try.func22, Try.ntmps22
  go_upto_region 2 with (first | (go_at_call 37; refine HS.out.mono ?_; rintro e w1 ⟨rfl, R1, B1⟩))
  go_wp2_with (first | (go_at_call 37; refine (HT.out _ R1).mono ?_; rintro e w2 ⟨rfl, I2, B2⟩; have x0 := I2.a; have x1 := I2.f 0; have x2 := I2.lt))
  go_ret
  obtain ⟨v, hv, dv⟩ := I2.d
  have hlt := I2.lt
  have hb2 : Below w.heap.size w2 (w2.setCell ⟨w.heap.size, 0, none⟩ (.bool true)) := (Below.refl w.heap.size w2).setCell (p := ⟨w.heap.size, 0, none⟩) (Nat.le_refl _) _
  refine ⟨rfl, ?_, ?_⟩
  · simp only [World.size_setCell]
    refine ⟨Nat.le_refl _, hlt, World.cell?_setCell_same _ _ _ x0, fun i => by rw [World.frozen?_setCell]; exact I2.f i, v, by rw [cell_off _ _ _ _ _ (by omega)]; exact hv, ?_⟩
    rcases dv with h | ⟨h0, h1, b, cap, e, h2, h3, h4, h5, h6⟩
    · exact .inl h
    · refine .inr ⟨h0, h1, b, cap, e, h2, h3, h4, h5, ?_⟩
      by_cases hbz : b = w.heap.size
      · subst hbz; rw [x0] at h6; injection h6 with h6; cases h6
      · rw [World.cell?_of_block (Below.heap_setCell w2 ⟨w.heap.size, 0, none⟩ (.bool true) b hbz)]; exact h6
  · exact ((HB.out.trans B1).trans B2).trans hb2
set_option maxHeartbeats 1000000 in
set_option maxRecDepth 20000 in
theorem uint64_any (x A B b : Nat) (neg : Bool) (w : World) (h : IntAt A B w b neg x) :
    Calls Try.prog 48 #[.pointer (some ⟨b, 0, none⟩)] w fun e w' => ∃ n, e = .returned (.int .u64 (x : Nat)) ∧ w' = w.drewN n := by
  obtain ⟨v, hv, hd⟩ := h.d
  clear h
  rcases hd with ⟨rfl, ao, cap, rfl, hc⟩ | ⟨hx0, hx, g, cap, rfl, hc1, hc, hA, hb, hcell⟩
  · go_enter Try.func48, Try.ntmps48
    go_wp2
    refine wp_loop_rounds 1 ?_
    rw [rounds_succ]
    go_wp2
    go_ret
    exact ⟨0, rfl, rfl⟩
  · have hor := or_zero64 x hx
    have hm : min (1 : Int) 2 = 1 := by decide
    go_enter Try.func48, Try.ntmps48
    go_wp2
    refine wp_loop_rounds 2 ?_
    rw [rounds_succ]
    go_wp2
    rw [rounds_succ]
    go_wp2
    go_ret
    exact ⟨0, rfl, rfl⟩
end Go.Proofs.Ytacpakmglmfgnaa
