/-
  The walk of sub: the difference of two rows of limbs.
-/
import Derived.Test.YtfhkpkebiinglaaAdd
import Derived.Deep.RegionHeld3
namespace Go.Proofs.Ytfhkpkebiinglaa
open Go.RowKit

theorem RowAt.drew {w : World} {k : IntKind} {ao : Option Addr} {cap : Nat} {L : List Nat} (h : RowAt w k ao cap L) : RowAt w.drew k ao cap L := h.below (Below.refl _ _).drew (Nat.le_refl _)
/-- A row of old memory, read in a later world: one cell of it. -/
theorem RowAt.get {w0 w : World} {k : IntKind} {ao : Option Addr} {cap : Nat} {L : List Nat} (h : RowAt w0 k ao cap L) (hb : Below w0.heap.size w0 w) (i : Nat) (hi : i < L.length) :
    ∃ b, ao = some ⟨b, 0, none⟩ ∧ b < w0.heap.size ∧ w.cell? ⟨b, i, none⟩ = some (.int k (L[i] : Nat)) := by
  obtain ⟨b, e, hlt, hc⟩ := h.cell i hi
  exact ⟨b, e, hlt, (hb.cell (p := ⟨b, i, none⟩) hlt).trans hc⟩
/-- The borrow, by bits. -/
theorem borrow_bits (x y c : BitVec 32) (hc : c.toNat ≤ 1) : (((~~~x &&& y) ||| (~~~(x ^^^ y) &&& (x - y - c))) >>> 31).toNat = if x.toNat < y.toNat + c.toNat then 1 else 0 := by
  have hx := x.isLt
  have hy := y.isLt
  have key : ∀ v : BitVec 32, (v >>> 31).toNat = if v.msb then 1 else 0 := by
    intro v
    rw [BitVec.toNat_ushiftRight, Nat.shiftRight_eq_div_pow, BitVec.msb_eq_decide]
    have := v.isLt
    by_cases h : 2 ^ (32 - 1) ≤ v.toNat
    · simp only [h, decide_true, if_true]; omega
    · simp only [h, decide_false]; simp; omega
  rw [key]
  have hd : (x - y - c).toNat = (x.toNat + (4294967296 - y.toNat) + (4294967296 - c.toNat)) % 4294967296 := by
    rw [BitVec.toNat_sub, BitVec.toNat_sub]; omega
  simp only [BitVec.msb_or, BitVec.msb_and, BitVec.msb_xor, BitVec.msb_not]
  have m1 := BitVec.msb_eq_decide (x := x)
  have m2 := BitVec.msb_eq_decide (x := y)
  have m3 := BitVec.msb_eq_decide (x := x - y - c)
  rw [m1, m2, m3, hd]
  generalize x.toNat = X at *
  generalize y.toNat = Y at *
  generalize c.toNat = C at *
  by_cases a1 : 2147483648 ≤ X <;> by_cases a2 : 2147483648 ≤ Y <;> by_cases a3 : 2147483648 ≤ (X + (4294967296 - Y) + (4294967296 - C)) % 4294967296 <;> by_cases a4 : X < Y + C <;> simp [a1, a2, a3, a4] <;> omega
def bor (x y c : Nat) : Nat := if x < y + c then 1 else 0
theorem bv_and (X Y : BitVec 32) : bits .and .u32 (X.toNat : Int) (Y.toNat : Int) = ((X &&& Y).toNat : Int) := by
  have key : bits .and .u32 (X.toNat : Int) (Y.toNat : Int) = IntKind.u32.wrap ((BitVec.ofInt 32 (X.toNat : Int) &&& BitVec.ofInt 32 (Y.toNat : Int)).toNat : Int) := rfl
  have := (X &&& Y).isLt
  rw [key, BitVec.ofInt_natCast, BitVec.ofInt_natCast, BitVec.ofNat_toNat, BitVec.ofNat_toNat, BitVec.setWidth_eq, BitVec.setWidth_eq, IntKind.wrap_u32]
  omega
theorem bv_or (X Y : BitVec 32) : bits .or .u32 (X.toNat : Int) (Y.toNat : Int) = ((X ||| Y).toNat : Int) := by
  have key : bits .or .u32 (X.toNat : Int) (Y.toNat : Int) = IntKind.u32.wrap ((BitVec.ofInt 32 (X.toNat : Int) ||| BitVec.ofInt 32 (Y.toNat : Int)).toNat : Int) := rfl
  have := (X ||| Y).isLt
  rw [key, BitVec.ofInt_natCast, BitVec.ofInt_natCast, BitVec.ofNat_toNat, BitVec.ofNat_toNat, BitVec.setWidth_eq, BitVec.setWidth_eq, IntKind.wrap_u32]
  omega
theorem bv_xor (X Y : BitVec 32) : bits .xor .u32 (X.toNat : Int) (Y.toNat : Int) = ((X ^^^ Y).toNat : Int) := by
  have key : bits .xor .u32 (X.toNat : Int) (Y.toNat : Int) = IntKind.u32.wrap ((BitVec.ofInt 32 (X.toNat : Int) ^^^ BitVec.ofInt 32 (Y.toNat : Int)).toNat : Int) := rfl
  have := (X ^^^ Y).isLt
  rw [key, BitVec.ofInt_natCast, BitVec.ofInt_natCast, BitVec.ofNat_toNat, BitVec.ofNat_toNat, BitVec.setWidth_eq, BitVec.setWidth_eq, IntKind.wrap_u32]
  omega
theorem bv_not (X : BitVec 32) : bits .xor .u32 IntKind.u32.max (X.toNat : Int) = ((~~~X).toNat : Int) := by
  have e : (IntKind.u32.max : Int) = ((BitVec.allOnes 32).toNat : Int) := by rw [BitVec.toNat_allOnes]; rfl
  rw [e, bv_xor, BitVec.allOnes_xor]
theorem bor_bits (x y c : Nat) (hx : x < 4294967296) (hy : y < 4294967296) (hc : c ≤ 1) :
    bits .or .u32 (bits .and .u32 (bits .xor .u32 IntKind.u32.max (x : Int)) (y : Int)) (bits .and .u32 (bits .xor .u32 IntKind.u32.max (bits .xor .u32 (x : Int) (y : Int))) (((x : Int) - y - c) % 4294967296)) / 2147483648 = ((bor x y c : Nat) : Int) := by
  obtain ⟨X, hX⟩ : ∃ X : BitVec 32, x = X.toNat := ⟨BitVec.ofNat 32 x, by rw [BitVec.toNat_ofNat]; omega⟩
  obtain ⟨Y, hY⟩ : ∃ Y : BitVec 32, y = Y.toNat := ⟨BitVec.ofNat 32 y, by rw [BitVec.toNat_ofNat]; omega⟩
  obtain ⟨C, hC⟩ : ∃ C : BitVec 32, c = C.toNat := ⟨BitVec.ofNat 32 c, by rw [BitVec.toNat_ofNat]; omega⟩
  have hd : ((x : Int) - y - c) % 4294967296 = ((X - Y - C).toNat : Int) := by
    rw [BitVec.toNat_sub, BitVec.toNat_sub, ← hX, ← hY, ← hC]; omega
  rw [hd]
  have hb := borrow_bits X Y C (by omega)
  rw [BitVec.toNat_ushiftRight, Nat.shiftRight_eq_div_pow] at hb
  unfold bor
  rw [hX, hY, hC, bv_xor, bv_not, bv_not, bv_and, bv_and, bv_or, ← hb]
  omega
theorem Sub32_any (x y c : Nat) (hx : x < 4294967296) (hy : y < 4294967296) (hc : c ≤ 1) (w : World) :
    Calls Try.prog 87 #[.int .u32 (x : Int), .int .u32 (y : Int), .int .u32 (c : Int)] w fun e w' => e = .returned (.tuple #[.int .u32 (((x + 8589934592 - y - c) % 4294967296 : Nat) : Int), .int .u32 ((bor x y c : Nat) : Int)]) ∧ w = w' := by
  have hb := Lib.hid (bor_bits x y c hx hy hc)
  have hs : IntKind.u32.signed = false := rfl
  have hd : (((x + 8589934592 - y - c) % 4294967296 : Nat) : Int) = (((x : Int) - y) % 4294967296 - c) % 4294967296 := by omega
  have HD := Lib.hid hd
  clear hd
  go_enter Try.func87, Try.ntmps87
  go_wp2
  go_ret2
  refine ⟨?_, rfl⟩
  rw [HD.out]
  rw [← hb.out]
  rfl
theorem bor_le (x y c : Nat) : bor x y c ≤ 1 := by unfold bor; split <;> omega
theorem bor_eq (x y c : Nat) (hx : x < 4294967296) (hy : y < 4294967296) (hc : c ≤ 1) : x + bor x y c * 4294967296 = (x + 8589934592 - y - c) % 4294967296 + y + c := by
  unfold bor
  split <;> omega

set_option maxRecDepth 20000 in
theorem sub_any (aa ab : Option Addr) (ca cb : Nat) (A B : List Nat) (hA : ∀ d ∈ A, d < 4294967296) (hB : ∀ d ∈ B, d < 4294967296) (ha : A.length ≤ 1000000) (hle : dval 4294967296 B ≤ dval 4294967296 A) (w : World)
    (rA : RowAt w .u32 aa ca A) (rB : RowAt w .u32 ab cb B) :
    Calls Try.prog 76 #[.slice aa A.length ca, .slice ab B.length cb] w (GaveRow 91 .u32 (digs 4294967296 (dval 4294967296 A - dval 4294967296 B)) w) := by
  obtain ⟨i0, hi0, hz0, hz1, hz2⟩ := info_parts info91
  have RA := Lib.hid rA
  have RB := Lib.hid rB
  have HA := Lib.hid hA
  have HB := Lib.hid hB
  have HLE := Lib.hid hle
  clear rA rB hA hB hle
  go_enter Try.func76, Try.ntmps76
  go_wp2_with (first | (at_make; refine wpList_make_full _ rfl _ _ 77 rfl w.heap.size 91 i0 (.int .u32 0) 1 Try.underlying77 hi0 hz0 hz1 .i64 .i64 _ _ A.length rfl rfl (by go_num) (by go_num) (by rw [hz2]; omega) (by unfold maxLen; omega) (Nat.le_refl _) ?_; intro w1 hown1 hgrow1))
  have hO : Own w 91 .u32 w.heap.size (List.replicate A.length 0) w1 := by
    refine ⟨?_, (Below.refl _ _).grown hgrow1 (Nat.le_refl _) (fun k h => by cases h)⟩
    rw [cu_zero] at hown1
    rw [List.length_replicate]; exact hown1
  have HO := Lib.hid hO
  clear hO hown1 hgrow1 hi0 hz0 hz1 hz2
  go_loopw [5, 13] (fun vc vi wr => ∃ i c O, vi = .int .i64 ((i : Nat) : Int) ∧ vc = .int .u32 ((c : Nat) : Int) ∧ SubAt 4294967296 A B i c O ∧ Own w 91 .u32 w.heap.size O wr) (fun _ vi _ => A.length - (intOf vi).toNat)
  case atStart => exact ⟨0, 0, _, rfl, rfl, SubAt.start _ (by omega) A B, HO.out⟩
  case round =>
    obtain ⟨i, c, O, rfl, rfl, hm, ho⟩ := hrel
    have hc := hm.borrow
    have hi := hm.upto
    have HMA := Lib.hid hm
    have HW := Lib.hid ho
    clear hm ho
    by_cases hlt : i < A.length
    · have HST := Lib.hid (HMA.out.step hlt)
      have hx := HA.out _ (List.getElem_mem hlt)
      have hy := getD_small HB.out (show 0 < 4294967296 by omega) i
      have HBT := Lib.hid fun W r => at_any ab B.length cb B rfl i W r
      obtain ⟨ba, rfl, hba, hca⟩ := RA.out.get HW.out.below i hlt
      have RB2 := RB.out.below HW.out.below (Nat.le_refl _)
      have hfz := HW.out.frozen i
      have hcell := HW.out.cell i (by rw [HMA.out.len]; exact hlt)
      have HLN := Lib.hid HMA.out.len
      generalize O[i]'(by rw [HLN.out]; exact hlt) = o at hcell
      generalize A[i] = x at *
      generalize B.getD i 0 = y at *
      have h0i : (0 : Int) ≤ (i : Int) := by omega
      have h0j : (i : Int) < (A.length : Int) := by omega
      go_wp2
      go_region_held3 (fun W => RowAt W .u32 ab cb B ∧ W.cell? ⟨ba, i, none⟩ = some (.int .u32 (x : Int))) (exact ⟨by first | assumption | exact RowAt.drew (by assumption) | exact RB.out.below (HW.out.below.setCell (Nat.le_refl _) _).drew (Nat.le_refl _), by first | assumption | (rw [World.cell?_drew, World.cell?_setCell_far _ _ _ _ (Nat.ne_of_gt hba)]; assumption)⟩) (first | (go_at_call 79; refine (HBT.out _ (by first | assumption | exact RowAt.drew (by assumption))).mono ?_; rintro e w' ⟨rfl, rfl⟩) | (go_at_call 87; refine (Sub32_any x y c hx hy hc _).mono ?_; rintro e w' ⟨rfl, rfl⟩))
      go_wp2
      go_roundw
      case rel => exact ⟨i + 1, _, _, by go_num, rfl, HST.out _ _ (Nat.mod_lt _ (by omega)) (bor_le x y c) (bor_eq x y c hx hy hc), by have h := HW.out.store i ((x + 8589934592 - y - c) % 4294967296); exact ⟨h.own, h.below.drew⟩⟩
      case measure => simp [intOf]; omega
    · have hie : i = A.length := by omega
      subst hie
      have hlen := HMA.out.len
      have hv := HMA.out.leave HA.out HB.out HLE.out
      have HC := Lib.hid (cut_n (some ⟨w.heap.size, 0, none⟩) A.length A.length O hlen HMA.out.lt wr (by rw [← hlen]; exact HW.out.row))
      have HF := Lib.hid (HW.out.gave (B := 4294967296) (by omega) HMA.out.lt)
      rw [hlen] at HF
      rw [hv] at HC HF
      clear hlen hv
      go_wp2_with (first | (go_at_call 83; refine HC.out.mono ?_; rintro e w' ⟨rfl, rfl⟩))
      go_ret
      exact HF.out
end Go.Proofs.Ytfhkpkebiinglaa
