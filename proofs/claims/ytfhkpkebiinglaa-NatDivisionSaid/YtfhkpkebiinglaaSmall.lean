/-
  The walk of small: a row of limbs divided by one limb.
-/
import Derived.Test.YtfhkpkebiinglaaOf
namespace Go.Proofs.Ytfhkpkebiinglaa
open Go.RowKit

/-- Where the division by one limb stands: the limbs from k on are divided. -/
structure SmallAt (A : List Nat) (d k r : Nat) (Q : List Nat) : Prop where
  len : Q.length = A.length
  upto : k ≤ A.length
  lt : ∀ q ∈ Q, q < 4294967296
  rest : r < d
  val : dval 4294967296 (Q.drop k) * d + r = dval 4294967296 (A.drop k)

theorem SmallAt.start (A : List Nat) (d : Nat) (hd : 0 < d) : SmallAt A d A.length 0 (List.replicate A.length 0) := by
  refine ⟨by simp, Nat.le_refl _, fun q hq => ?_, hd, ?_⟩
  · rw [List.eq_of_mem_replicate hq]; omega
  · rw [List.drop_of_length_le (by simp), List.drop_of_length_le (Nat.le_refl _)]; simp [dval]
theorem SmallAt.step {A : List Nat} {d i r : Nat} {Q : List Nat} (h : SmallAt A d (i + 1) r Q) (hi : i < A.length) (hA : A[i] < 4294967296) :
    SmallAt A d i ((r * 4294967296 + A[i]) % d) (Q.set i ((r * 4294967296 + A[i]) / d)) := by
  have hr := h.rest
  have hd : 0 < d := by omega
  have hq : (r * 4294967296 + A[i]) / d < 4294967296 := by
    rw [Nat.div_lt_iff_lt_mul hd]
    have : (r + 1) * 4294967296 ≤ d * 4294967296 := Nat.mul_le_mul_right _ hr
    omega
  refine ⟨by rw [List.length_set]; exact h.len, by omega, fun q hm => ?_, Nat.mod_lt _ hd, ?_⟩
  · rcases List.mem_or_eq_of_mem_set hm with h1 | rfl
    · exact h.lt _ h1
    · exact hq
  · have hiq : i < Q.length := by rw [h.len]; exact hi
    have hi2 : i < (Q.set i ((r * 4294967296 + A[i]) / d)).length := by rw [List.length_set]; exact hiq
    rw [List.drop_eq_getElem_cons hi2, List.drop_eq_getElem_cons hi, List.getElem_set_self]
    have e : (Q.set i ((r * 4294967296 + A[i]) / d)).drop (i + 1) = Q.drop (i + 1) := by
      rw [List.drop_set_of_lt (by omega)]
    rw [e]
    simp only [dval]
    have hv := h.val
    have hm := Nat.div_add_mod (r * 4294967296 + A[i]) d
    generalize (r * 4294967296 + A[i]) / d = q at *
    generalize (r * 4294967296 + A[i]) % d = m at *
    generalize A[i] = x at *
    rw [← hv, Nat.add_mul, Nat.mul_comm q d, Nat.mul_assoc, Nat.mul_add]
    omega

theorem or_high (r x : Nat) (hx : x < 4294967296) : r * 4294967296 ||| x = r * 4294967296 + x := by
  have := Nat.shiftLeft_add_eq_or_of_lt (i := 32) (b := x) hx r
  rw [Nat.shiftLeft_eq] at this
  exact this.symm

theorem bits_or64 (x y : Nat) (hx : x < 18446744073709551616) (hy : y < 18446744073709551616) : bits .or .u64 (x : Int) (y : Int) = ((x ||| y : Nat) : Int) := by
  have h : x ||| y < 2 ^ 64 := Nat.or_lt_two_pow (by omega) (by omega)
  have key : bits .or .u64 (x : Int) (y : Int) = IntKind.u64.wrap ((BitVec.ofNat 64 x ||| BitVec.ofNat 64 y).toNat : Int) := by
    rw [← BitVec.ofInt_natCast, ← BitVec.ofInt_natCast]; rfl
  rw [key, IntKind.wrap_u64, BitVec.toNat_or, BitVec.toNat_ofNat, BitVec.toNat_ofNat, Nat.mod_eq_of_lt (a := x) (by omega), Nat.mod_eq_of_lt (a := y) (by omega)]
  omega
theorem small_or (r x : Nat) (hr : r < 4294967296) (hx : x < 4294967296) : bits .or .u64 ((r : Int) * 4294967296) (x : Int) = ((r * 4294967296 + x : Nat) : Int) := by
  have e : ((r : Int) * 4294967296) = ((r * 4294967296 : Nat) : Int) := by omega
  rw [e, bits_or64 _ _ (by omega) (by omega), or_high r x hx]
theorem small_quo (n d : Nat) (hn : n / d < 4294967296) : IntKind.u64.wrap (((n : Nat) : Int).tdiv (d : Int)) % 4294967296 = ((n / d : Nat) : Int) := by
  rw [← Int.ofNat_tdiv, IntKind.wrap_u64]
  generalize n / d = m at *
  omega
theorem small_rem (n d : Nat) : ((n : Nat) : Int).tmod (d : Int) = ((n % d : Nat) : Int) := (Int.ofNat_tmod n d).symm

set_option maxRecDepth 20000 in
theorem small_any (aa : Option Addr) (ca : Nat) (A : List Nat) (d : Nat) (hA : ∀ x ∈ A, x < 4294967296) (hl : A.length ≤ 1000000) (hd : 0 < d) (hd2 : d < 4294967296) (w : World) (rA : RowAt w .u32 aa ca A) :
    Calls Try.prog 78 #[.slice aa A.length ca, .int .u32 (d : Int)] w fun e w' => ∃ v, e = .returned (.tuple #[v, .int .u32 ((dval 4294967296 A % d : Nat) : Int)]) ∧ w'.ownsRow w.heap.size 91 1 v (digs 4294967296 (dval 4294967296 A / d)).length (cu .u32 (digs 4294967296 (dval 4294967296 A / d))) ∧ Below w.heap.size w w' := by
  obtain ⟨i0, hi0, hz0, hz1, hz2⟩ := info_parts info91
  have RA := Lib.hid rA
  have HA := Lib.hid hA
  clear rA hA
  go_enter Try.func78, Try.ntmps78
  go_wp2_with (first | (at_make; refine wpList_make_full _ rfl _ _ 77 rfl w.heap.size 91 i0 (.int .u32 0) 1 Try.underlying77 hi0 hz0 hz1 .i64 .i64 _ _ A.length rfl rfl (by go_num) (by go_num) (by rw [hz2]; omega) (by unfold maxLen; omega) (Nat.le_refl _) ?_; intro w1 hown1 hgrow1))
  have hO : Own w 91 .u32 w.heap.size (List.replicate A.length 0) w1 := by
    refine ⟨?_, (Below.refl _ _).grown hgrow1 (Nat.le_refl _) (fun k h => by cases h)⟩
    rw [cu_zero] at hown1
    rw [List.length_replicate]; exact hown1
  have HO := Lib.hid hO
  clear hO hown1 hgrow1 hi0 hz0 hz1 hz2
  go_loopw [7, 8] (fun vr vi wr => ∃ k r Q, vi = .int .i64 ((k : Nat) - 1 : Int) ∧ vr = .int .u64 ((r : Nat) : Int) ∧ SmallAt A d k r Q ∧ Own w 91 .u32 w.heap.size Q wr) (fun _ vi _ => ((intOf vi) + 1).toNat)
  case atStart => exact ⟨A.length, 0, _, rfl, rfl, SmallAt.start A d hd, HO.out⟩
  case round =>
    obtain ⟨k, r, Q, rfl, rfl, hm, ho⟩ := hrel
    have hk := hm.upto
    have hr := hm.rest
    have HM := Lib.hid hm
    have HW := Lib.hid ho
    clear hm ho
    rcases k with _ | i
    · have hv := HM.out.val
      rw [List.drop_zero, List.drop_zero] at hv
      have hlen := HM.out.len
      have HC := Lib.hid (cut_n (some ⟨w.heap.size, 0, none⟩) A.length A.length Q hlen HM.out.lt wr (by rw [← hlen]; exact HW.out.row))
      have hqd : dval 4294967296 Q = dval 4294967296 A / d := by
        rw [← hv, Nat.mul_comm, Nat.mul_add_div hd, Nat.div_eq_of_lt hr, Nat.add_zero]
      have hrd : r = dval 4294967296 A % d := by
        rw [← hv, Nat.mul_comm, Nat.mul_add_mod, Nat.mod_eq_of_lt hr]
      have HF := Lib.hid (HW.out.gave (B := 4294967296) (by omega) HM.out.lt)
      rw [hlen] at HF
      rw [hqd] at HC HF
      have HR := Lib.hid hrd
      clear hv hqd hrd
      go_wp2_with (first | (go_at_call 83; refine HC.out.mono ?_; rintro e w' ⟨rfl, rfl⟩))
      go_ret2
      obtain ⟨v, hv, hown, hbel⟩ := HF.out
      cases hv
      refine ⟨_, ?_, hown, hbel⟩
      rw [← HR.out]
      rfl
    · have hlt : i < A.length := hk
      have hi1 : ((i + 1 : Nat) : Int) - 1 = (i : Int) := by omega
      obtain ⟨ba, rfl, hba, hca⟩ := ((RA.out.below HW.out.below (Nat.le_refl _)).cell i hlt)
      have hx : A[i] < 4294967296 := HA.out _ (List.getElem_mem hlt)
      have HS := Lib.hid (HM.out.step hlt hx)
      have hfz := HW.out.frozen i
      have hcell := HW.out.cell i (by rw [HM.out.len]; exact hlt)
      have HL := Lib.hid HM.out.len
      generalize A[i] = x at hca hx HS
      generalize Q[i]'(by rw [HL.out]; exact hlt) = o at hcell
      rw [hi1]
      go_wp2
      have hor := small_or r x (by omega) hx
      have hq : (r * 4294967296 + x) / d < 4294967296 := by
        rw [Nat.div_lt_iff_lt_mul hd]
        have : (r + 1) * 4294967296 ≤ d * 4294967296 := Nat.mul_le_mul_right _ hr
        omega
      go_roundw
      case rel =>
        refine ⟨i, _, _, rfl, ?_, HS.out, ?_⟩
        · rw [hor, small_rem]
        · rw [hor, small_quo _ _ hq]
          exact HW.out.store i _
      case measure => simp [intOf]
end Go.Proofs.Ytfhkpkebiinglaa
