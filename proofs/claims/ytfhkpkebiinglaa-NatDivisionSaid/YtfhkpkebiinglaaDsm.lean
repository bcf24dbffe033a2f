/-
  The walk of div where the divisor is greater, or of one limb.
-/
import Derived.Test.YtfhkpkebiinglaaRight
namespace Go.Proofs.Ytfhkpkebiinglaa
open Go.RowKit

def DivPost (x y : Nat) (w : World) (e : Ending) (w' : World) : Prop :=
  ∃ aq cq ar cr, e = .returned (.tuple #[.slice aq (digs 4294967296 (x / y)).length cq, .slice ar (digs 4294967296 (x % y)).length cr]) ∧
    RowAt w' .u32 aq cq (digs 4294967296 (x / y)) ∧ RowAt w' .u32 ar cr (digs 4294967296 (x % y)) ∧ Below w.heap.size w w'
theorem RowAt.none (w : World) (k : IntKind) : RowAt w k none 0 [] := ⟨Nat.le_refl _, Nat.zero_le _, fun _ => ⟨rfl, rfl⟩, fun _ hi => absurd hi (Nat.not_lt_zero _)⟩
theorem cmpN_lt {a b : Nat} (h : a < b) : cmpN a b = -1 := by unfold cmpN; rw [if_pos h]
theorem cmpN_ge {a b : Nat} (h : b ≤ a) : 0 ≤ cmpN a b := by unfold cmpN; rw [if_neg (by omega)]; split <;> omega
theorem cmpN_le {a b : Nat} : cmpN a b ≤ 1 := by unfold cmpN; split; omega; split <;> omega

set_option maxRecDepth 100000 in
theorem div_lt (aa ab : Option Addr) (ca cb : Nat) (A B : List Nat) (hA : ∀ d ∈ A, d < 4294967296) (hB : ∀ d ∈ B, d < 4294967296) (w : World) (rA : RowAt w .u32 aa ca A) (rB : RowAt w .u32 ab cb B)
    (hlt : dval 4294967296 A < dval 4294967296 B) :
    Calls Try.prog 65 #[.slice aa A.length ca, .slice ab B.length cb] w (DivPost (dval 4294967296 A) (dval 4294967296 B) w) := by
  have HA := Lib.hid (cut_any aa ca A hA w rA)
  have HB := Lib.hid (cut_any ab cb B hB w rB)
  have RA := Lib.hid (rA.cut hA)
  have RB := Lib.hid (rB.cut hB)
  have HC := Lib.hid (cmp_any aa ab ca cb (digs 4294967296 (dval 4294967296 A)) (digs 4294967296 (dval 4294967296 B)) (digs_lt (by omega) _) (digs_lt (by omega) _) w RA.out RB.out)
  rw [dval_digs (by omega), dval_digs (by omega), cmpN_lt hlt] at HC
  have H0 : Hid (dval 4294967296 A / dval 4294967296 B = 0) := Nat.div_eq_of_lt hlt
  have H1 : Hid (dval 4294967296 A % dval 4294967296 B = dval 4294967296 A) := Nat.mod_eq_of_lt hlt
  clear hA hB rA rB hlt
  generalize dval 4294967296 A = x at *
  generalize dval 4294967296 B = y at *
  generalize hD : digs 4294967296 x = D at *
  have HD := Lib.hid hD
  generalize digs 4294967296 y = E at *
  clear hD
  go_enter Try.func65, Try.ntmps65
  go_wp2_with fail
  go_step3
  go_wp2_with (first | (go_at_call 83; with_reducible refine HA.out.mono ?_; rintro e w' ⟨rfl, rfl⟩) | (go_at_call 83; with_reducible refine HB.out.mono ?_; rintro e w' ⟨rfl, rfl⟩) | (go_at_call 75; refine HC.out.mono ?_; rintro e w1 ⟨rfl, B1⟩))
  rw [Exit.noGoto_ret]
  go_ret2
  refine ⟨none, 0, aa, ca, ?_, ?_, ?_, B1⟩
  · rw [H0.out, H1.out, HD.out]; rfl
  · rw [H0.out]; exact RowAt.none _ _
  · rw [H1.out, HD.out]; exact RA.out.below B1 (Nat.le_refl _)

theorem limb1_row (x : Nat) (w : World) : RowAt (w.alloc (.cells #[.int .u32 (x : Int)] 91)) .u32 (some ⟨w.heap.size, 0, none⟩) 1 [x] := by
  refine ⟨Nat.le_refl _, by unfold maxLen; omega, (fun h => by cases h), fun i hi => ⟨w.heap.size, rfl, by simp, ?_⟩⟩
  rw [World.cell?_alloc_at _ _ _ _ rfl]
  match i, hi with
  | 0, _ => rfl

set_option maxRecDepth 100000 in
theorem div_one (aa ab : Option Addr) (ca cb : Nat) (A B : List Nat) (hA : ∀ d ∈ A, d < 4294967296) (hB : ∀ d ∈ B, d < 4294967296) (ha : A.length ≤ 1000000) (w : World) (rA : RowAt w .u32 aa ca A) (rB : RowAt w .u32 ab cb B)
    (hge : dval 4294967296 B ≤ dval 4294967296 A) (h1 : dval 4294967296 B < 4294967296) (h0 : dval 4294967296 B ≠ 0) :
    Calls Try.prog 65 #[.slice aa A.length ca, .slice ab B.length cb] w (DivPost (dval 4294967296 A) (dval 4294967296 B) w) := by
  have HA := Lib.hid (cut_any aa ca A hA w rA)
  have HB := Lib.hid (cut_any ab cb B hB w rB)
  have RA := Lib.hid (rA.cut hA)
  have RB := Lib.hid (rB.cut hB)
  have HC := Lib.hid (cmp_any aa ab ca cb (digs 4294967296 (dval 4294967296 A)) (digs 4294967296 (dval 4294967296 B)) (digs_lt (by omega) _) (digs_lt (by omega) _) w RA.out RB.out)
  rw [dval_digs (by omega), dval_digs (by omega)] at HC
  have hc0 := cmpN_ge hge
  have hc1 := @cmpN_le (dval 4294967296 A) (dval 4294967296 B)
  generalize cmpN (dval 4294967296 A) (dval 4294967296 B) = c at *
  have hy : digs 4294967296 (dval 4294967296 B) = [dval 4294967296 B] := by
    rw [digs_pos (by omega) h0, Nat.div_eq_of_lt h1, digs_zero, Nat.mod_eq_of_lt h1]
  rw [hy] at HB HC RB
  have hDl := digs_lt (B := 4294967296) (by omega) (dval 4294967296 A)
  have hDe := digs_le (B := 4294967296) (by omega) A hA
  have hDv := dval_digs (B := 4294967296) (by omega) (dval 4294967296 A)
  generalize dval 4294967296 A = x at *
  generalize dval 4294967296 B = y at *
  generalize digs 4294967296 x = D at *
  have HS := Lib.hid fun W (hR : RowAt W .u32 aa ca D) => small_any aa ca D y hDl (by omega) (by omega) h1 W hR
  rw [hDv] at HS
  clear hA hB rA rB hge hDl hDe hDv
  obtain ⟨bb, rfl, hbb, hcb⟩ := RB.out.cell 0 (by simp)
  have hcb2 : w.cell? ⟨bb, 0, none⟩ = some (.int .u32 (y : Int)) := hcb
  have hm := RB.out.max
  have hle := RB.out.le
  unfold maxLen at hm
  simp only [List.length_singleton] at hle HB HC
  have hr := Nat.mod_lt x (Nat.pos_of_ne_zero h0)
  have H1 := Lib.hid h1
  have HL : Hid (∀ d ∈ [x % y], d < 4294967296) := by intro d hd; rw [List.mem_singleton.1 hd]; omega
  clear hcb h1
  go_enter Try.func65, Try.ntmps65
  go_wp2_with fail
  go_step3
  go_wp2_with (first | (go_at_call 83; with_reducible refine HA.out.mono ?_; rintro e w' ⟨rfl, rfl⟩) | (go_at_call 83; with_reducible refine HB.out.mono ?_; rintro e w' ⟨rfl, rfl⟩) | (go_at_call 75; refine HC.out.mono ?_; rintro e w1 ⟨rfl, B1⟩; have hcb3 : w1.cell? ⟨bb, 0, none⟩ = some (.int .u32 (y : Int)) := (B1.cell (p := ⟨bb, 0, none⟩) hbb).trans hcb2; have hbb3 : bb < w1.heap.size := Nat.lt_of_lt_of_le hbb B1.size) | (go_at_call 78; refine (HS.out _ (RA.out.below B1 (Nat.le_refl _))).mono ?_; rintro e w2 ⟨vq, rfl, hq, B2⟩; have hq2 := Lib.hid hq; clear hq) | (go_at_call 83; refine (cut_n _ 1 1 [x % y] rfl HL.out _ (limb1_row (x % y) w2)).mono ?_; rintro e w3 ⟨rfl, rfl⟩))
  rw [Exit.noGoto_ret]
  go_ret2
  obtain ⟨aq, cq, rfl, rq⟩ := own_slice hq2.out
  have hv : dval 4294967296 [x % y] = x % y := by simp [dval]
  have hr2 := (limb1_row (x % y) w2).cut HL.out
  rw [hv] at hr2 ⊢
  refine ⟨aq, cq, _, _, rfl, ?_, hr2, (B1.on B2).alloc (by have := (B1.on B2).size; exact this) _⟩
  exact rq.below ((Below.refl _ _).alloc (Nat.le_refl _) _) (Nat.le_refl _)
end Go.Proofs.Ytfhkpkebiinglaa
