/-
  The walk of Quo at a whole number and 1.
-/
import Derived.Test.YtinlachbnflpoaaOa
namespace Go.Proofs.Ytinlachbnflpoaa
open Go.RowKit

def quoT (c : Option Nat) : Option Nat := fo .quo (cn 0) c
def quoN (c : Option Nat) : Option Nat := fo .add c (fo .mul (cn 0) (quoT c))
def quoR (a c : Option Nat) : Option Nat := fo .quo (fo .add a (fo .mul (cn 0) (quoT c))) (quoN c)
def quoI (a c : Option Nat) : Option Nat := fo .quo (fo .sub (cn 0) (fo .mul a (quoT c))) (quoN c)
theorem one_le : leF 0 4607182418800017408 = true := by decide
theorem quo_any (a : Nat) (w : World) :
    Calls Try.prog 14 #[.complex .f64 a 0, .complex .f64 4607182418800017408 0] w fun e w' => ∃ re im m, e = .returned (.complex .f64 re im) ∧ w' = w.drewN m ∧ FV re (quoR (cn a) (cn 4607182418800017408)) ∧ FV im (quoI (cn a) (cn 4607182418800017408)) := by
  have h1 := one_le
  go_enter Try.func14, Try.ntmps14
  go_wp2_with (first | (go_at_call 20; refine (abs_any _ (by decide) _).mono ?_; rintro e w' ⟨rfl, rfl⟩) | ((with_reducible apply wpList_add); exact rfl; exact rfl; intro z n hz) | ((with_reducible apply wpList_sub); exact rfl; exact rfl; intro z n hz) | ((with_reducible apply wpList_mul); exact rfl; exact rfl; intro z n hz) | ((with_reducible apply wpList_quo); exact rfl; exact rfl; intro z n hz))
  go_ret
  refine ⟨_, _, _, rfl, rfl, ?_, ?_⟩
  all_goals (simp only [fvIff] at *; simp [*, quoR, quoI, quoN, quoT])
theorem fw_quo : ∀ k : Fin 6, quoR (cn (fw k.val)) (cn 4607182418800017408) = some (fw k.val) ∧ quoI (cn (fw k.val)) (cn 4607182418800017408) = some 0 := by decide +kernel
theorem quo_fw (k : Nat) (hk : k ≤ 5) (w : World) :
    Calls Try.prog 14 #[.complex .f64 (fw k) 0, .complex .f64 4607182418800017408 0] w fun e w' => e = .returned (.complex .f64 (fw k) 0) ∧ Below w.heap.size w w' := by
  refine (quo_any (fw k) w).mono ?_
  rintro e w' ⟨re, im, n, rfl, rfl, h1, h2⟩
  obtain ⟨q1, q2⟩ := fw_quo ⟨k, by omega⟩
  obtain rfl := fv_eq h1 q1
  obtain rfl := fv_eq h2 q2
  exact ⟨rfl, below_drewN (Below.refl _ _) n⟩

/-- Complex numbers as values. -/
def cu (L : List (Nat × Nat)) : List Value := L.map fun z => .complex .f64 z.1 z.2
/-- A slice of complex numbers reads so. -/
structure CRow (w : World) (b cap : Nat) (L : List (Nat × Nat)) : Prop where
  le : L.length ≤ cap
  max : cap ≤ maxLen
  lt : b < w.heap.size
  cell : ∀ i (h : i < L.length), w.cell? ⟨b, i, none⟩ = some (.complex .f64 L[i].1 L[i].2)
theorem CRow.below {w w' : World} {b cap : Nat} {L : List (Nat × Nat)} (h : CRow w b cap L) (hb : Below w.heap.size w w') : CRow w' b cap L :=
  ⟨h.le, h.max, Nat.lt_of_lt_of_le h.lt hb.size, fun i hi => (hb.cell (p := ⟨b, i, none⟩) h.lt).trans (h.cell i hi)⟩
/-- A polynomial that may be: finite, the highest coefficient not 0. -/
structure PolyOk (L : List (Nat × Nat)) : Prop where
  pos : 0 < L.length
  small : L.length ≤ 17
  fin : ∀ i (h : i < L.length), Fi L[i].1 ∧ Fi L[i].2
  top : ∀ (h : L.length - 1 < L.length), (eqF L[L.length - 1].1 0 && eqF L[L.length - 1].2 0) = false
set_option maxRecDepth 20000 in
theorem pcheck_any (b cap : Nat) (L : List (Nat × Nat)) (hL : PolyOk L) (w : World) (h : CRow w b cap L) :
    Calls Try.prog 18 #[.slice (some ⟨b, 0, none⟩) L.length cap] w fun e w' => e = .returned (.int .i64 0) ∧ w = w' := by
  have hle := h.le
  have hmx := h.max
  unfold maxLen at hmx
  have hlt := h.lt
  have hp := hL.pos
  have hs := hL.small
  have hc1 := h.cell (L.length - 1) (by omega)
  have HZ := Lib.hid fun W => zero_any L[L.length - 1].1 L[L.length - 1].2 W
  rw [hL.top (by omega)] at HZ
  have HC := Lib.hid h.cell
  have HF := Lib.hid fun i hi W => finite_p L[i].1 L[i].2 (hL.fin i hi).1 (hL.fin i hi).2 W
  have hpz : (0 : Int) < L.length := by omega
  have hsz : ¬ (17 : Int) < L.length := by omega
  clear h hL
  generalize L[L.length - 1].1 = tr at *
  generalize L[L.length - 1].2 = ti at *
  go_enter Try.func18, Try.ntmps18
  go_wp2_with (first | (go_at_call 24; refine (HZ.out _).mono ?_; rintro e w' ⟨rfl, rfl⟩))
  go_loop [24] (fun v => ∃ i : Nat, i ≤ L.length ∧ v = .int .i64 (i : Int)) (fun v => L.length - (intOf v).toNat)
  case atStart => exact ⟨0, Nat.zero_le _, rfl⟩
  case round =>
    obtain ⟨i, hi, rfl⟩ := hrel
    by_cases hl : i < L.length
    · have hcell := HC.out i hl
      have HF2 := Lib.hid fun W => HF.out i hl W
      generalize L[i].1 = a at *
      generalize L[i].2 = c at *
      clear hc1
      go_wp2_with (first | (go_at_call 25; refine (HF2.out _).mono ?_; rintro e w' ⟨rfl, rfl⟩))
      go_round
      case rel => exact ⟨i + 1, by omega, by rw [Int.natCast_add]; rfl⟩
      case measure => simp [intOf]; omega
    · have hie : i = L.length := by omega
      subst hie
      clear hc1
      go_wp2
      go_ret
      exact ⟨rfl, rfl⟩
/-- A map that may be, in memory: two rows. -/
structure MapOk (w : World) (b1 c1 : Nat) (L1 : List (Nat × Nat)) (b2 c2 : Nat) (L2 : List (Nat × Nat)) : Prop where
  p : CRow w b1 c1 L1
  q : CRow w b2 c2 L2
  po : PolyOk L1
  qo : PolyOk L2
theorem MapOk.below {w w' : World} {b1 c1 b2 c2 : Nat} {L1 L2 : List (Nat × Nat)} (h : MapOk w b1 c1 L1 b2 c2 L2) (hb : Below w.heap.size w w') : MapOk w' b1 c1 L1 b2 c2 L2 := ⟨h.p.below hb, h.q.below hb, h.po, h.qo⟩
/-- The map as a value. -/
def mapV (b1 c1 n1 b2 c2 n2 : Nat) : Value := .agg #[.slice (some ⟨b1, 0, none⟩) n1 c1, .slice (some ⟨b2, 0, none⟩) n2 c2]
theorem alloc_below (w : World) (o : Obj) : Below w.heap.size w (w.alloc o) := (Below.refl _ _).alloc (Nat.le_refl _) _
theorem _root_.Go.RowKit.Below.on {w0 w1 w2 : World} (h : Below w0.heap.size w0 w1) (k : Below w1.heap.size w1 w2) : Below w0.heap.size w0 w2 := h.trans (k.mono h.size)
theorem _root_.Go.RowKit.Below.alloced {a w : World} (h : Below a.heap.size a w) {o : Obj} : Below a.heap.size a (w.alloc o) := h.alloc h.size o
set_option maxRecDepth 20000 in
theorem mcheck_any {b1 c1 b2 c2 : Nat} {L1 L2 : List (Nat × Nat)} (w : World) (h : MapOk w b1 c1 L1 b2 c2 L2) :
    Calls Try.prog 11 #[.agg #[.slice (some ⟨b1, 0, none⟩) L1.length c1, .slice (some ⟨b2, 0, none⟩) L2.length c2]] w fun e w' => e = .returned (.int .i64 0) ∧ Below w.heap.size w w' := by
  have HP := Lib.hid fun W r => pcheck_any b1 c1 L1 h.po W r
  have HQ := Lib.hid fun W r => pcheck_any b2 c2 L2 h.qo W r
  have HM := Lib.hid h
  have h1 : ((L1.length : Int) == 0) = false := by rw [beq_eq_false_iff_ne]; have := h.po.pos; omega
  have h2 : ((L2.length : Int) == 0) = false := by rw [beq_eq_false_iff_ne]; have := h.qo.pos; omega
  clear h
  go_enter Try.func11, Try.ntmps11
  go_wp2_with (first | (go_at_call 18; with_reducible refine (HP.out _ (HM.out.p.below (alloc_below _ _))).mono ?_; rintro e w' ⟨rfl, rfl⟩) | (go_at_call 18; with_reducible refine (HQ.out _ (HM.out.q.below (alloc_below _ _))).mono ?_; rintro e w' ⟨rfl, rfl⟩))
  go_ret
  exact ⟨rfl, alloc_below _ _⟩
theorem ispoint_fin (a b : Nat) (ha : Fi a) (hb : Fi b) (w : World) :
    Calls Try.prog 12 #[.agg #[.complex .f64 a b, .bool false]] w fun e w' => e = .returned (.bool true) ∧ Below w.heap.size w w' := by
  have HF := Lib.hid fun W => finite_r a b ha hb W
  clear ha hb
  go_enter Try.func12, Try.ntmps12
  go_wp2_with (first | (go_at_call 15; refine (HF.out _).mono ?_; rintro e w' ⟨rfl, rfl⟩))
  go_ret
  exact ⟨rfl, alloc_below _ _⟩
theorem ispoint_inf (w : World) :
    Calls Try.prog 12 #[.agg #[.complex .f64 0 0, .bool true]] w fun e w' => e = .returned (.bool true) ∧ Below w.heap.size w w' := by
  go_enter Try.func12, Try.ntmps12
  go_wp2_with (first | (go_at_call 19; refine (same_zero _).mono ?_; rintro e w' ⟨rfl, rfl⟩))
  go_ret
  exact ⟨rfl, alloc_below _ _⟩
/-- poly.all at one polynomial. -/
theorem all_one {b cap : Nat} {L : List (Nat × Nat)} (hL : PolyOk L) (w : World) (h : CRow w b cap L) :
    Calls Try.prog 22 #[.slice (some ⟨w.heap.size, 0, none⟩) 1 1] (w.alloc (.cells #[.slice (some ⟨b, 0, none⟩) L.length cap] 25)) fun e w' => e = .returned (.bool true) ∧ w.alloc (.cells #[.slice (some ⟨b, 0, none⟩) L.length cap] 25) = w' := by
  have HP := Lib.hid fun W r => pcheck_any b cap L hL W r
  have HC := Lib.hid (h.below (alloc_below w (.cells #[.slice (some ⟨b, 0, none⟩) L.length cap] 25)))
  have hcell : (w.alloc (.cells #[.slice (some ⟨b, 0, none⟩) L.length cap] 25)).cell? ⟨w.heap.size, 0, none⟩ = some (.slice (some ⟨b, 0, none⟩) L.length cap) := by
    rw [World.cell?_alloc_at _ _ _ _ rfl]; rfl
  clear h hL
  generalize hW : w.alloc (.cells #[.slice (some ⟨b, 0, none⟩) L.length cap] 25) = W at *
  clear hW
  go_enter Try.func22, Try.ntmps22
  go_wp2
  go_loop [7] (fun v => ∃ i : Nat, i ≤ 1 ∧ v = .int .i64 (i : Int)) (fun v => 1 - (intOf v).toNat)
  case atStart => exact ⟨0, Nat.zero_le _, rfl⟩
  case round =>
    obtain ⟨i, hi, rfl⟩ := hrel
    by_cases hl : i = 0
    · subst hl
      go_wp2_with (first | (go_at_call 18; refine (HP.out _ HC.out).mono ?_; rintro e w' ⟨rfl, rfl⟩))
      go_round
      case rel => exact ⟨1, by omega, rfl⟩
      case measure => simp [intOf]
    · have hie : i = 1 := by omega
      subst hie
      go_wp2
      go_ret
      exact ⟨rfl, rfl⟩
end Go.Proofs.Ytinlachbnflpoaa
