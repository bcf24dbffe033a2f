/-
  The walk of the product of two rows of limbs.
-/
import Derived.Test.YtfhkpkebiinglaaMem
import Derived.Test.YtfhkpkebiinglaaPm
namespace Go.Proofs.Ytfhkpkebiinglaa
open Go.RowKit
theorem mul_any (aa ab : Option Addr) (ca cb : Nat) (A B : List Nat) (hA : ∀ d ∈ A, d < 4294967296) (hB : ∀ d ∈ B, d < 4294967296) (hl : A.length + B.length ≤ 1000000) (w : World)
    (rA : RowAt w .u32 aa ca A) (rB : RowAt w .u32 ab cb B) :
    Calls Try.prog 59 #[.slice aa A.length ca, .slice ab B.length cb] w (GaveRow 91 .u32 (digs 4294967296 (dval 4294967296 A * dval 4294967296 B)) w) := by
  obtain ⟨i0, hi0, hz0, hz1, hz2⟩ := info_parts info91
  have RA := Lib.hid rA
  have RB := Lib.hid rB
  have HA := Lib.hid hA
  have HB := Lib.hid hB
  clear rA rB hA hB
  go_enter Try.func59, Try.ntmps59
  go_wp2_with (first | (at_make; refine wpList_make_full _ rfl _ _ 77 rfl w.heap.size 91 i0 (.int .u32 0) 1 Try.underlying77 hi0 hz0 hz1 .i64 .i64 _ _ (A.length + B.length) rfl rfl (by go_num) (by go_num) (by rw [hz2]; omega) (by unfold maxLen; omega) (Nat.le_refl _) ?_; intro w1 hown1 hgrow1))
  have hO : Own w 91 .u32 w.heap.size (List.replicate (A.length + B.length) 0) w1 := by
    refine ⟨?_, (Below.refl _ _).grown hgrow1 (Nat.le_refl _) (fun k h => by cases h)⟩
    rw [cu_zero] at hown1
    rw [List.length_replicate]; exact hown1
  have HO := Lib.hid hO
  clear hO hown1 hgrow1 hi0 hz0 hz1 hz2
  go_loopw [19] (fun vi wr => ∃ i O, i ≤ A.length ∧ vi = .int .i64 ((i : Nat) : Int) ∧ MulOut 4294967296 A B i O ∧ Own w 91 .u32 w.heap.size O wr) (fun vi _ => A.length - (intOf vi).toNat)
  case atStart => exact ⟨0, _, Nat.zero_le _, rfl, MulOut.start _ (by omega) A B, HO.out⟩
  case round =>
    obtain ⟨i, O, hi, rfl, hm, ho⟩ := hrel
    have HM := Lib.hid hm
    have HW := Lib.hid ho
    clear hm ho
    by_cases hlt : i < A.length
    · obtain ⟨ba, rfl, hba, hca⟩ := ((RA.out.below HW.out.below (Nat.le_refl _)).cell i hlt)
      have hx : A[i] < 4294967296 := HA.out _ (List.getElem_mem hlt)
      have HE := Lib.hid (HM.out.enter (by omega) A[i])
      have HQ := Lib.hid (fun c O => @MulIn.leave 4294967296 A B i c O hlt)
      generalize A[i] = x at hca hx HE HQ
      go_wp2
      obtain ⟨wo, rfl⟩ : ∃ wo : World, wo = wr := ⟨_, rfl⟩
      go_loopw [8, 26] (fun vc vk wi => ∃ k c O, vk = .int .i64 ((k : Nat) : Int) ∧ vc = .int .u64 ((c : Nat) : Int) ∧ MulIn 4294967296 A B i x k c O ∧ Own w 91 .u32 w.heap.size O wi) (fun _ vk _ => B.length - (intOf vk).toNat)
      case atStart => exact ⟨0, 0, _, rfl, rfl, HE.out, HW.out⟩
      case round =>
        obtain ⟨k, c, O', rfl, rfl, hin, ho'⟩ := hrel
        have hk := hin.upto
        have hc := hin.carry
        have hlen := hin.len
        have HI := Lib.hid hin
        have HV := Lib.hid ho'
        clear hin ho'
        by_cases hkl : k < B.length
        · obtain ⟨bb, rfl, hbb, hcb⟩ := ((RB.out.below HV.out.below (Nat.le_refl _)).cell k hkl)
          have hy : B[k] < 4294967296 := HB.out _ (List.getElem_mem hkl)
          have hcell := HV.out.cell (i + k) (by omega)
          have hfz := HV.out.frozen (i + k)
          have ho3 : O'[i + k]'(by omega) < 4294967296 := HI.out.lt _ (List.getElem_mem _)
          have HS := Lib.hid (HI.out.step HB.out hx hkl hlt)
          generalize B[k] = y at hcb hy HS
          have ge : O'.getD (i + k) 0 = O'[i + k]'(by omega) := getD_lt _
          rw [ge] at HS
          generalize O'[i + k]'(by omega) = o at hcell ho3 HS
          clear ge
          have hp := sum_lt hc hx hy ho3
          go_wp2
          go_roundw
          case rel =>
            refine ⟨k + 1, _, _, by go_num, ?_, HS.out, ?_⟩
            · congr 1
            · have := HV.out.store (i + k) ((c + (x * y + o)) % 4294967296)
              exact this
          case measure => simp [intOf]; omega
        · have hke : k = B.length := by omega
          subst hke
          have hcell := HV.out.cell (i + B.length) (by omega)
          have hfz := HV.out.frozen (i + B.length)
          generalize O'[i + B.length]'(by omega) = o at hcell
          go_wp2
          go_roundw
          case rel => exact ⟨i + 1, _, by omega, by go_num, HQ.out c O' HI.out, HV.out.store (i + B.length) c⟩
          case measure => simp [intOf]; omega
    · have hie : i = A.length := by omega
      subst hie
      have hlen := HM.out.len
      go_wp2_with (first | (go_at_call 83; refine (cut_n _ _ _ O hlen HM.out.lt _ (by rw [← hlen]; exact HW.out.row)).mono ?_; rintro e w' ⟨rfl, rfl⟩))
      go_ret
      have hv := HM.out.val
      rw [List.take_length] at hv
      have := HW.out.gave (B := 4294967296) (by omega) HM.out.lt
      rw [hv] at this
      rw [hlen] at this
      rw [hv]
      exact this
end Go.Proofs.Ytfhkpkebiinglaa
