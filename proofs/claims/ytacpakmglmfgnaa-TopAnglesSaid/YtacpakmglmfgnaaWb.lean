/-
  Wide's whole numbers below 2^32: laid, SetUint64, NewInt.
-/
import Derived.Test.YtacpakmglmfgnaaWa
import Derived.Test.YtacpakmglmfgnaaTf
import Derived.Handy
namespace Go.Proofs.Ytacpakmglmfgnaa
open Go.RowKit

/-- The digits of a number below 2^32; its row, if it has one, lies from A to B. -/
def Dig (A B : Nat) (w : World) (v : Value) (x : Nat) : Prop :=
  (x = 0 ∧ ∃ ao cap, v = .slice ao 0 cap ∧ cap ≤ maxLen) ∨
  (0 < x ∧ x < 4294967296 ∧ ∃ b cap, v = .slice (some ⟨b, 0, none⟩) 1 cap ∧ 1 ≤ cap ∧ cap ≤ maxLen ∧ A ≤ b ∧ b < B ∧ w.cell? ⟨b, 0, none⟩ = some (.int .u32 (x : Nat)))
theorem Dig.lt {A B : Nat} {w : World} {v : Value} {x : Nat} (h : Dig A B w v x) : x < 4294967296 := by
  rcases h with ⟨e, _⟩ | ⟨_, e, _⟩ <;> omega
theorem Dig.on {A B C : Nat} {w w' : World} {v : Value} {x : Nat} (h : Dig A B w v x) (hb : Below C w w') (hC : B ≤ C) : Dig A B w' v x := by
  rcases h with h | ⟨h0, h1, b, cap, e, h2, h3, h4, h5, h6⟩
  · exact .inl h
  · exact .inr ⟨h0, h1, b, cap, e, h2, h3, h4, h5, (hb.cell (p := ⟨b, 0, none⟩) (by show b < C; omega)).trans h6⟩
theorem Dig.mono {A B A' B' : Nat} {w : World} {v : Value} {x : Nat} (h : Dig A B w v x) (hA : A' ≤ A) (hB : B ≤ B') : Dig A' B' w v x := by
  rcases h with h | ⟨h0, h1, b, cap, e, h2, h3, h4, h5, h6⟩
  · exact .inl h
  · exact .inr ⟨h0, h1, b, cap, e, h2, h3, by omega, by omega, h6⟩
theorem Dig.drewN {A B : Nat} {w : World} {v : Value} {x : Nat} (h : Dig A B w v x) (n : Nat) : Dig A B (w.drewN n) v x := h
/-- The row lies not at block z. -/
def Av (z : Nat) (v : Value) : Prop := ∀ b cap, v = .slice (some ⟨b, 0, none⟩) 1 cap → b ≠ z
theorem Dig.av {A B z : Nat} {w : World} {v : Value} {x : Nat} (h : Dig A B w v x) (hz : B ≤ z ∨ z < A) : Av z v := by
  intro b cap e
  rcases h with ⟨_, ao, cap, rfl, _⟩ | ⟨h0, h1, b, cap, rfl, h2, h3, h4, h5, h6⟩
  · injection e with e1 e2; cases e2
  · injection e with e1; injection e1 with e1; injection e1 with e1; omega
/-- A row that was cut is the digits of its number. -/
theorem Dig.of_row {w : World} {A B cap x : Nat} {ao : Option Addr} {L : List Nat} (h : RowAt w .u32 ao cap L) (hL : ∀ d ∈ L, d < 4294967296) (hv : dval 4294967296 L = x) (hx : x < 4294967296)
    (hb : ∀ b, ao = some ⟨b, 0, none⟩ → A ≤ b ∧ b < B) : Dig A B w (.slice ao (digs 4294967296 (dval 4294967296 L)).length cap) x := by
  have ht := take_digs (by omega) L hL
  have hle := digs_le (B := 4294967296) (by omega) L hL
  rw [hv, D1_digs hx] at ht hle ⊢
  by_cases h0 : x = 0
  · subst h0
    exact .inl ⟨rfl, ao, cap, rfl, h.max⟩
  · have e : D1 x = [x] := by unfold D1; rw [if_neg h0]
    rw [e] at ht hle ⊢
    have hl : 0 < L.length := by simp at hle; omega
    obtain ⟨b, e2, hbs, hc⟩ := h.cell 0 hl
    have hL0 : L[0] = x := by
      have : (L.take 1)[0]? = [x][0]? := by rw [← ht]; simp
      simpa [List.getElem?_take, hl] using this
    obtain ⟨q1, q2⟩ := hb b e2
    have := h.le
    exact .inr ⟨by omega, hx, b, cap, by rw [e2]; rfl, by omega, h.max, q1, q2, by rw [hL0] at hc; exact hc⟩
/-- A whole number of wide's, sign and digits; all of it lies from A to B. -/
structure IntAt (A B : Nat) (w : World) (b : Nat) (neg : Bool) (x : Nat) : Prop where
  ge : A ≤ b
  lt : b < B
  a : w.cell? ⟨b, 0, none⟩ = some (.bool neg)
  f : ∀ i, w.frozen? ⟨b, i, none⟩ = false
  d : ∃ v, w.cell? ⟨b, 1, none⟩ = some v ∧ Dig A B w v x
theorem IntAt.on {A B C : Nat} {w w' : World} {b : Nat} {neg : Bool} {x : Nat} (h : IntAt A B w b neg x) (hb : Below C w w') (hC : B ≤ C) : IntAt A B w' b neg x := by
  have := h.lt
  obtain ⟨v, h1, h2⟩ := h.d
  exact ⟨h.ge, h.lt, (hb.cell (p := ⟨b, 0, none⟩) (by show b < C; omega)).trans h.a, fun i => (hb.frozen (p := ⟨b, i, none⟩) (by show b < C; omega)).trans (h.f i), v, (hb.cell (p := ⟨b, 1, none⟩) (by show b < C; omega)).trans h1, h2.on hb hC⟩
theorem IntAt.mono {A B A' B' : Nat} {w : World} {b : Nat} {neg : Bool} {x : Nat} (h : IntAt A B w b neg x) (hA : A' ≤ A) (hB : B ≤ B') : IntAt A' B' w b neg x := by
  obtain ⟨v, h1, h2⟩ := h.d
  exact ⟨Nat.le_trans hA h.ge, Nat.lt_of_lt_of_le h.lt hB, h.a, h.f, v, h1, h2.mono hA hB⟩
theorem IntAt.x_lt {A B : Nat} {w : World} {b : Nat} {neg : Bool} {x : Nat} (h : IntAt A B w b neg x) : x < 4294967296 := by
  obtain ⟨v, _, h2⟩ := h.d; exact h2.lt
/-- Where a whole number may be written. -/
structure Rec (w : World) (b : Nat) : Prop where
  lt : b < w.heap.size
  c0 : ∃ o, w.cell? ⟨b, 0, none⟩ = some o
  c1 : ∃ o, w.cell? ⟨b, 1, none⟩ = some o
  f : ∀ i, w.frozen? ⟨b, i, none⟩ = false
theorem Rec.on {C : Nat} {w w' : World} {b : Nat} (h : Rec w b) (hb : Below C w w') (hC : b < C) : Rec w' b := by
  obtain ⟨o0, h0⟩ := h.c0
  obtain ⟨o1, h1⟩ := h.c1
  exact ⟨Nat.lt_of_lt_of_le h.lt hb.size, ⟨o0, (hb.cell (p := ⟨b, 0, none⟩) hC).trans h0⟩, ⟨o1, (hb.cell (p := ⟨b, 1, none⟩) hC).trans h1⟩, fun i => (hb.frozen (p := ⟨b, i, none⟩) hC).trans (h.f i)⟩
theorem IntAt.rc {A B : Nat} {w : World} {b : Nat} {neg : Bool} {x : Nat} (h : IntAt A B w b neg x) (hB : B ≤ w.heap.size) : Rec w b := by
  obtain ⟨v, h1, _⟩ := h.d
  exact ⟨Nat.lt_of_lt_of_le h.lt hB, ⟨_, h.a⟩, ⟨_, h1⟩, h.f⟩
theorem rec_new (w : World) (o0 o1 : Value) (t : TypeId) : Rec (w.alloc (.cells #[o0, o1] t)) w.heap.size :=
  ⟨by simp, ⟨_, new0 w t o0 o1⟩, ⟨_, new1 w t o0 o1⟩, fun i => newf w _ t _ i rfl⟩
theorem laid_store (z : Nat) (neg : Bool) (v : Value) (x A B C : Nat) (w : World) (hz : Rec w z) (hd : Dig A B w v x) (hB : B ≤ w.heap.size) (hne : Av z v) (hCz : C ≤ z) (hCA : C ≤ A) :
    IntAt C w.heap.size ((w.setCell ⟨z, 0, none⟩ (.bool neg)).setCell ⟨z, 1, none⟩ v) z neg x ∧ Below z w ((w.setCell ⟨z, 0, none⟩ (.bool neg)).setCell ⟨z, 1, none⟩ v) := by
  obtain ⟨o0, h0⟩ := hz.c0
  obtain ⟨o1, h1⟩ := hz.c1
  obtain ⟨r0, r1, r2⟩ := two_set w z (.bool neg) v o0 o1 h0 h1
  refine ⟨⟨hCz, hz.lt, r0, fun i => by rw [World.frozen?_setCell, World.frozen?_setCell]; exact hz.f i, v, r1, ?_⟩, r2 z (Nat.le_refl _)⟩
  rcases hd with h | ⟨h0, h1, b, cap, e, h2, h3, h4, h5, h6⟩
  · exact .inl h
  · exact .inr ⟨h0, h1, b, cap, e, h2, h3, by omega, by omega, by rw [cell_set2 _ _ _ _ _ _ (hne b cap e)]; exact h6⟩
set_option maxRecDepth 20000 in
theorem laid_full (z : Nat) (neg : Bool) (v : Value) (x A B C : Nat) (w : World) (hz : Rec w z) (hd : Dig A B w v x) (hB : B ≤ w.heap.size) (hne : Av z v) (hCz : C ≤ z) (hCA : C ≤ A) :
    Calls Try.prog 50 #[.pointer (some ⟨z, 0, none⟩), .bool neg, v] w fun e w' => e = .returned (.pointer (some ⟨z, 0, none⟩)) ∧ IntAt C w'.heap.size w' z (neg && decide (0 < x)) x ∧ Below z w w' ∧ ∀ g i, g ≠ z → w'.cell? ⟨g, i, none⟩ = w.cell? ⟨g, i, none⟩ := by
  have HS := Lib.hid (laid_store z (neg && decide (0 < x)) v x A B C w hz hd hB hne hCz hCA)
  obtain ⟨o0, h0⟩ := hz.c0
  obtain ⟨o1, h1⟩ := hz.c1
  have f0 := hz.f 0
  have f1 := hz.f 1
  have hzl := hz.lt
  have h1' : ∀ u, (w.setCell ⟨z, 0, none⟩ u).cell? ⟨z, 1, none⟩ = some o1 := fun u => by rw [cell_off _ _ _ _ _ (by omega)]; exact h1
  clear hz
  rcases hd with ⟨rfl, ao, cap, rfl, hc⟩ | ⟨hx0, hx, b, cap, rfl, hc1, hc, hA, hb, hcell⟩
  · rw [show decide (0 < 0) = false from rfl, Bool.and_false] at HS ⊢
    cases neg
    all_goals
      go_enter Try.func50, Try.ntmps50
      go_wp2
      go_ret
      exact ⟨rfl, by simp only [World.size_setCell]; exact HS.out.1, HS.out.2, fun g i h => cell_set2 _ _ _ _ _ _ h⟩
  · rw [decide_eq_true hx0, Bool.and_true] at HS ⊢
    cases neg
    all_goals
      go_enter Try.func50, Try.ntmps50
      go_wp2
      go_ret
      exact ⟨rfl, by simp only [World.size_setCell]; exact HS.out.1, HS.out.2, fun g i h => cell_set2 _ _ _ _ _ _ h⟩
theorem laid_any (z : Nat) (neg : Bool) (v : Value) (x A B C : Nat) (w : World) (hz : Rec w z) (hd : Dig A B w v x) (hB : B ≤ w.heap.size) (hne : Av z v) (hCz : C ≤ z) (hCA : C ≤ A) :
    Calls Try.prog 50 #[.pointer (some ⟨z, 0, none⟩), .bool neg, v] w fun e w' => e = .returned (.pointer (some ⟨z, 0, none⟩)) ∧ IntAt C w'.heap.size w' z (neg && decide (0 < x)) x ∧ Below z w w' :=
  (laid_full z neg v x A B C w hz hd hB hne hCz hCA).mono fun _ _ h => ⟨h.1, h.2.1, h.2.2.1⟩
theorem setu_any (z x : Nat) (hx : x < 4294967296) (w : World) (hz : Rec w z) :
    Calls Try.prog 37 #[.pointer (some ⟨z, 0, none⟩), .int .u64 (x : Nat)] w fun e w' => e = .returned (.pointer (some ⟨z, 0, none⟩)) ∧ IntAt z w'.heap.size w' z false x ∧ Below z w w' := by
  have e1 : (x : Int) / 4294967296 = ((0 : Nat) : Int) := by omega
  have hrow := limb_row x 0 w
  have hL : ∀ d ∈ [x, 0], d < 4294967296 := by intro d hd; simp at hd; rcases hd with rfl | rfl <;> omega
  have hv : dval 4294967296 [x, 0] = x := by simp [dval]
  have HC := Lib.hid (wcut_any _ 2 [x, 0] hL _ hrow)
  have hD := Dig.of_row (A := w.heap.size) (B := w.heap.size + 1) hrow hL hv hx (by intro b e; cases e; omega)
  have hzl := hz.lt
  have HL := Lib.hid (laid_any z false _ x _ _ z _ (hz.on (alloc_below w (.cells #[.int .u32 (x : Int), .int .u32 ((0 : Nat) : Int)] 84)) hzl) hD (by simp) (hD.av (.inr hzl)) (Nat.le_refl _) (Nat.le_of_lt hzl))
  have HB := Lib.hid (alloc_below w (.cells #[.int .u32 (x : Int), .int .u32 ((0 : Nat) : Int)] 84))
  clear hrow hL hv hD hz
  go_enter Try.func37, Try.ntmps37
  go_wp2_with (first | (go_at_call 54; refine HC.out.mono ?_; rintro e w1 ⟨rfl, rfl⟩) | (go_at_call 50; refine HL.out.mono ?_; rintro e w1 ⟨rfl, I1, B1⟩))
  go_ret
  exact ⟨rfl, I1, (HB.out.mono (by omega)).trans B1⟩
theorem newint_any (x : Nat) (hx : x < 4294967296) (w : World) :
    Calls Try.prog 22 #[.int .i64 (x : Nat)] w fun e w' => e = .returned (.pointer (some ⟨w.heap.size, 0, none⟩)) ∧ IntAt w.heap.size w'.heap.size w' w.heap.size false x ∧ Below w.heap.size w w' := by
  have HS := Lib.hid (setu_any w.heap.size x hx _ (rec_new w (.bool false) (.slice none 0 0) 71))
  have HB := Lib.hid (alloc_below w (.cells #[.bool false, .slice none 0 0] 71))
  have h0 : (0 : Int) ≤ x := by omega
  go_enter Try.func22, Try.ntmps22
  go_wp2_with (first | (go_at_call 37; refine HS.out.mono ?_; rintro e w1 ⟨rfl, I1, B1⟩))
  go_ret
  exact ⟨rfl, I1, HB.out.trans B1⟩
end Go.Proofs.Ytacpakmglmfgnaa
