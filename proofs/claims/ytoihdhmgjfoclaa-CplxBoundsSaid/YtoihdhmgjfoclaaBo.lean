/-
  The walk of times.
-/
import Derived.Test.YtoihdhmgjfoclaaBn
namespace Go.Proofs.Ytoihdhmgjfoclaa
open Go.RowKit

theorem Own.drewN {w0 w : World} {g : Nat} {L : List Nat} (h : Own w0 g L w) (n : Nat) : Own w0 g L (w.drewN n) := ⟨h.own, below_drewN h.below n⟩
/-- Where the inner loop stands: before the last digit; or behind the carry's own place. -/
def TIn (A B : List Nat) (i x k c : Nat) (O : List Nat) : Prop := MulIn 65536 A B i x k c O ∨ (k = B.length + 1 ∧ c = 0 ∧ MulOut 65536 A B (i + 1) O)
set_option maxRecDepth 20000 in
theorem times_any (ba bb ca cb : Nat) (A B : List Nat) (w : World) (rA : RowAt w ba ca A) (rB : RowAt w bb cb B) (hA : A.length ≤ 1000) (hB : B.length ≤ 1000) :
    Calls Try.prog 70 #[.slice (some ⟨ba, 0, none⟩) A.length ca, .slice (some ⟨bb, 0, none⟩) B.length cb] w (Gave (dval 65536 A * dval 65536 B) (A.length + B.length + 1) w) := by
  obtain ⟨i0, hi0, hz0, hz1, hz2⟩ := info_parts info39
  have RA := Lib.hid rA
  have RB := Lib.hid rB
  have ma := rA.le
  have mb := rB.le
  have mxa := rA.max
  have mxb := rB.max
  unfold maxLen at mxa mxb
  clear rA rB
  go_enter Try.func70, Try.ntmps70
  go_wp2_with (first | (at_make; refine wpList_make_full _ rfl _ _ 71 rfl w.heap.size 39 i0 (.int .u32 0) 1 Try.underlying71 hi0 hz0 hz1 .i64 .i64 _ _ (A.length + B.length + 1) rfl rfl (by go_num) (by go_num) (by rw [hz2]; omega) (by unfold maxLen; omega) (Nat.le_refl _) ?_; intro w1 hown1 hgrow1))
  have hO : Own w w.heap.size (List.replicate (A.length + B.length + 1) 0) w1 := by
    refine ⟨?_, (Below.refl _ _).grown hgrow1 (Nat.le_refl _) (fun k h => by cases h)⟩
    rw [cu_zero] at hown1
    rw [List.length_replicate]; exact hown1
  have HO := Lib.hid hO
  clear hO hown1 hgrow1 hi0 hz0 hz1 hz2
  go_loopw [6] (fun vi wr => ∃ i O, i ≤ A.length ∧ vi = .int .i64 ((i : Nat) : Int) ∧ Hid (MulOut 65536 A B i O) ∧ Hid (Own w w.heap.size O wr)) (fun vi _ => A.length - (intOf vi).toNat)
  case atStart => exact ⟨0, _, Nat.zero_le _, rfl, MulOut.start _ (by omega) A B, HO⟩
  case round =>
    obtain ⟨i, O, hi, rfl, HM, HW⟩ := hrel
    clear HO
    by_cases hlt : i < A.length
    · have hx : A[i] < 65536 := RA.out.dig _ (List.getElem_mem hlt)
      have HE := Lib.hid (HM.out.enter (by omega) A[i])
      have HQ := Lib.hid (fun c O => @MulIn.leave 65536 A B i c O hlt)
      have HQ0 := Lib.hid (fun O => @MulIn.leave0 65536 A B i O hlt)
      have HCA := Lib.hid (RA.out.cell i hlt)
      generalize A[i] = x at HCA hx HE HQ HQ0
      clear HM
      go_wp2
      go_loopw [7, 8] (fun vc vk wi => ∃ k c O, vk = .int .i64 ((k : Nat) : Int) ∧ vc = .int .u32 ((c : Nat) : Int) ∧ c < 65536 ∧ k ≤ B.length + 1 ∧ Hid (TIn A B i x k c O) ∧ Hid (Own w w.heap.size O wi)) (fun _ vk _ => B.length + 1 - (intOf vk).toNat)
      case atStart => exact ⟨0, 0, _, rfl, rfl, by omega, by omega, .inl HE.out, HW⟩
      case round =>
        obtain ⟨k, c, O', rfl, rfl, hc, hk, HI, HV⟩ := hrel
        clear HW
        by_cases hkl : k < B.length
        · obtain hin : MulIn 65536 A B i x k c O' := HI.out.resolve_right (by omega)
          have hy : B[k] < 65536 := RB.out.dig _ (List.getElem_mem hkl)
          have hlen := hin.len
          have hcell := HV.out.cell (i + k) (by omega)
          have hfz := HV.out.frozen (i + k)
          have ho3 : O'[i + k]'(by omega) < 65536 := hin.lt _ (List.getElem_mem _)
          have HS := Lib.hid (hin.step RB.out.dig hx hkl hlt)
          have hca := (HV.out.below.cell (p := ⟨ba, i, none⟩) RA.out.lt).trans HCA.out
          have hcb := (RB.out.below HV.out.below).cell k hkl
          have hla := (RA.out.below HV.out.below).lt
          have hlb := (RB.out.below HV.out.below).lt
          generalize B[k] = y at hcb hy HS
          have ge : O'.getD (i + k) 0 = O'[i + k]'(by omega) := getD_lt _
          rw [ge] at HS
          generalize O'[i + k]'(by omega) = o at hcell ho3 HS
          have hp := sum_lt hc hx hy ho3
          clear ge hin HI HE HQ HQ0 HCA
          go_wp2
          have hpz : (0 : Int) ≤ (x : Int) * y := by rw [← Int.natCast_mul]; omega
          have hpw : (x : Int) * y < 4294967296 := by
            have : x * y < 65536 * 65536 := by omega
            rw [← Int.natCast_mul]; omega
          have hsw : (c : Int) + o + x * y < 4294967296 := by rw [← Int.natCast_mul]; omega
          have hw1 : IntKind.u32.wrap ((x : Int) * y) = (x : Int) * y := by rw [IntKind.wrap_u32]; exact Int.emod_eq_of_lt hpz hpw
          have hw2 : IntKind.u32.wrap ((c : Int) + o + (x : Int) * y) = (c : Int) + o + (x : Int) * y := by rw [IntKind.wrap_u32]; exact Int.emod_eq_of_lt (by omega) hsw
          go_quiet (fail)
          clear hw1 hw2 hpz hpw
          have hzz : ∃ z : Nat, z = c + o + x * y ∧ (c : Int) + o + (x : Int) * y = (z : Int) := ⟨_, rfl, by simp⟩
          obtain ⟨z, hz, hzi⟩ := hzz
          rw [hzi]
          rw [← hz] at HS hp
          have hz32 : z < 4294967296 := hp
          have HVD : Own w w.heap.size O' (wr.drewN nq) := HV.out.drewN nq
          have HST := Lib.hid fun d => HVD.store (i + k) d
          clear hzi hz hsw HVD hp HV
          go_wp2
          go_roundw
          case rel => exact ⟨k + 1, z / 65536, O'.set (i + k) (z % 65536), by go_num, by first | rfl | go_num, by omega, by omega, .inl HS.out, cast_own (HST.out _) (by omega)⟩
          case measure => simp [intOf]; first | done | omega
        · by_cases hc0 : c = 0
          · subst hc0
            have hout : Hid (MulOut 65536 A B (i + 1) O') := by
              rcases HI.out with h | ⟨_, _, h⟩
              · have hke : k = B.length := by have := h.upto; omega
                subst hke
                exact HQ0.out _ h
              · exact h
            clear HI
            go_wp2
            go_roundw
            case rel => exact ⟨i + 1, O', by omega, by go_num, hout, HV⟩
            case measure => simp [intOf]; first | done | omega
          · have hin : MulIn 65536 A B i x k c O' := HI.out.resolve_right (by omega)
            have hke : k = B.length := by have := hin.upto; omega
            subst hke
            have hlen := hin.len
            have hcell := HV.out.cell (i + B.length) (by omega)
            have hfz := HV.out.frozen (i + B.length)
            have ho : O'[i + B.length]'(by omega) = 0 := by
              have := hin.zero (i + B.length) (Nat.le_refl _)
              rwa [getD_lt (by omega)] at this
            rw [ho] at hcell
            have HLV := Lib.hid (HQ.out c O' hin)
            have HST := Lib.hid fun d => HV.out.store (i + B.length) d
            have hcz : (0 : Int) < c := by omega
            clear ho hin HI HE HQ HQ0 HCA HV hc0
            go_wp2
            go_roundw
            case rel => exact ⟨B.length + 1, c / 65536, O'.set (i + B.length) (c % 65536), by go_num, by first | rfl | go_num, by omega, by omega, .inr ⟨rfl, by omega, by rw [Nat.mod_eq_of_lt hc]; exact HLV.out⟩, by rw [low16i _ (by omega) (by omega)]; exact cast_own (HST.out _) (by omega)⟩
            case measure => simp [intOf]; first | done | omega
    · have hie : i = A.length := by omega
      subst hie
      go_wp2
      go_ret
      refine HW.out.gave' HM.out.lt ?_ (by rw [HM.out.len]; exact Nat.le_refl _) HM.out.len
      have hv := HM.out.val
      rw [List.take_length] at hv
      exact hv
end Go.Proofs.Ytoihdhmgjfoclaa
