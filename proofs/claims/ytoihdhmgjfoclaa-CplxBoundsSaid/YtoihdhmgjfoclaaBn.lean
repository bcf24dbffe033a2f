/-
  The walks of plus and times.
-/
import Derived.Test.YtoihdhmgjfoclaaBm
namespace Go.Proofs.Ytoihdhmgjfoclaa
open Go.RowKit

theorem bits_and32 (x y : Nat) (hx : x < 4294967296) (hy : y < 4294967296) : bits .and .u32 (x : Int) (y : Int) = ((x &&& y : Nat) : Int) := by
  have h : x &&& y < 2 ^ 32 := Nat.and_lt_two_pow _ (by omega)
  have key : bits .and .u32 (x : Int) (y : Int) = IntKind.u32.wrap ((BitVec.ofNat 32 x &&& BitVec.ofNat 32 y).toNat : Int) := by
    rw [← BitVec.ofInt_natCast, ← BitVec.ofInt_natCast]; rfl
  rw [key, IntKind.wrap_u32, BitVec.toNat_and, BitVec.toNat_ofNat, BitVec.toNat_ofNat, Nat.mod_eq_of_lt (a := x) (by omega), Nat.mod_eq_of_lt (a := y) (by omega)]
  omega
theorem bits_or32 (x y : Nat) (hx : x < 4294967296) (hy : y < 4294967296) : bits .or .u32 (x : Int) (y : Int) = ((x ||| y : Nat) : Int) := by
  have h : x ||| y < 2 ^ 32 := Nat.or_lt_two_pow (by omega) (by omega)
  have key : bits .or .u32 (x : Int) (y : Int) = IntKind.u32.wrap ((BitVec.ofNat 32 x ||| BitVec.ofNat 32 y).toNat : Int) := by
    rw [← BitVec.ofInt_natCast, ← BitVec.ofInt_natCast]; rfl
  rw [key, IntKind.wrap_u32, BitVec.toNat_or, BitVec.toNat_ofNat, BitVec.toNat_ofNat, Nat.mod_eq_of_lt (a := x) (by omega), Nat.mod_eq_of_lt (a := y) (by omega)]
  omega
@[go_sem] theorem low16 (x : Nat) (hx : x < 4294967296) : bits .and .u32 (x : Int) 65535 = ((x % 65536 : Nat) : Int) := by
  rw [show (65535 : Int) = ((65535 : Nat) : Int) from rfl, bits_and32 x _ hx (by omega)]
  rw [show (65535 : Nat) = 2 ^ 16 - 1 from rfl, Nat.and_two_pow_sub_one_eq_mod]

@[go_sem] theorem low16i (x : Int) (h0 : 0 ≤ x) (hx : x < 4294967296) : bits .and .u32 x 65535 = x % 65536 := by
  obtain ⟨n, rfl⟩ := Int.eq_ofNat_of_zero_le h0
  rw [low16 n (by omega)]; rfl
theorem Own.gave {w0 w : World} {g n m : Nat} {L : List Nat} (h : Own w0 g L w) (hd : ∀ d ∈ L, d < 65536) (hv : dval 65536 L = n) (hm : L.length ≤ m) : Gave n m w0 (.returned (.slice (some ⟨g, 0, none⟩) L.length L.length)) w :=
  ⟨g, L.length, L, rfl, h.row hd, hv, hm, h.below⟩
theorem Own.gave' {w0 w : World} {g n m k : Nat} {L : List Nat} (h : Own w0 g L w) (hd : ∀ d ∈ L, d < 65536) (hv : dval 65536 L = n) (hm : L.length ≤ m) (hk : L.length = k) : Gave n m w0 (.returned (.slice (some ⟨g, 0, none⟩) k k)) w := by
  subst hk; exact h.gave hd hv hm

theorem cast_own {w0 w : World} {g g' k d : Nat} {z : Int} {L : List Nat} (h : Own w0 g L (w.setCell ⟨g', k, none⟩ (.int .u32 (d : Nat)))) (e : z = (d : Int)) : Hid (Own w0 g L (w.setCell ⟨g', k, none⟩ (.int .u32 z))) := by
  subst e; exact h
set_option maxRecDepth 20000 in
theorem plus_any (ba bb ca cb : Nat) (A B : List Nat) (w : World) (rA : RowAt w ba ca A) (rB : RowAt w bb cb B) (hA : A.length ≤ 1000) (hB : B.length ≤ 1000) :
    Calls Try.prog 92 #[.slice (some ⟨ba, 0, none⟩) A.length ca, .slice (some ⟨bb, 0, none⟩) B.length cb] w (Gave (dval 65536 A + dval 65536 B) (max A.length B.length + 1) w) := by
  obtain ⟨i0, hi0, hz0, hz1, hz2⟩ := info_parts info39
  have RA := Lib.hid rA
  have RB := Lib.hid rB
  have ma := rA.le
  have mb := rB.le
  have mxa := rA.max
  have mxb := rB.max
  unfold maxLen at mxa mxb
  have hcase : ∃ n : Nat, (n = max A.length B.length) ∧ ((A.length : Int) < B.length ∧ n = B.length ∨ ¬ (A.length : Int) < B.length ∧ n = A.length) := ⟨_, rfl, by omega⟩
  obtain ⟨n, hn, hc⟩ := hcase
  have HN := Lib.hid hn
  clear rA rB hn
  rcases hc with ⟨hc, rfl⟩ | ⟨hc, rfl⟩
  · have HNA : Hid (B.length + 1 = max A.length B.length + 1) := by have := HN.out; show _ = _; omega
    go_enter Try.func92, Try.ntmps92
    go_wp2_with (first | (at_make; refine wpList_make_full _ rfl _ _ 71 rfl w.heap.size 39 i0 (.int .u32 0) 1 Try.underlying71 hi0 hz0 hz1 .i64 .i64 _ _ (B.length + 1) rfl rfl (by go_num) (by go_num) (by rw [hz2]; omega) (by unfold maxLen; omega) (Nat.le_refl _) ?_; intro w1 hown1 hgrow1))
    have hO : Own w w.heap.size (List.replicate (B.length + 1) 0) w1 := by
      refine ⟨?_, (Below.refl _ _).grown hgrow1 (Nat.le_refl _) (fun k h => by cases h)⟩
      rw [cu_zero] at hown1
      rw [List.length_replicate]; exact hown1
    have HO := Lib.hid hO
    clear hO hown1 hgrow1 hi0 hz0 hz1 hz2
    have hAN : A.length ≤ B.length := by omega
    have hBN : B.length ≤ B.length := by omega
    clear hc
    go_loopw [6, 7] (fun vc vi wr => ∃ k c O, k ≤ B.length + 1 ∧ vi = .int .i64 ((k : Nat) : Int) ∧ vc = .int .u32 ((c : Nat) : Int) ∧ Hid (AddAt 65536 A B (B.length + 1) k c O) ∧ Hid (Own w w.heap.size O wr)) (fun _ vi _ => B.length + 1 - (intOf vi).toNat)
    case atStart => exact ⟨0, 0, _, Nat.zero_le _, rfl, rfl, AddAt.start _ (by omega) A B _, HO⟩
    case round =>
      obtain ⟨k, c, O, hk, rfl, rfl, HM, HW⟩ := hrel
      clear HO
      by_cases hlt : k < B.length + 1
      · have hxb := getD_bd (β := 65536) (by omega) RA.out.dig k
        have hyb := getD_bd (β := 65536) (by omega) RB.out.dig k
        have HS := Lib.hid (HM.out.step (by omega) hxb hyb hlt)
        have hlen := HM.out.len
        have hcell := HW.out.cell k (by omega)
        have hfz := HW.out.frozen k
        generalize O[k]'(by omega) = o at hcell
        have hcb := HM.out.carry
        have HST := Lib.hid fun d => HW.out.store k d
        have hca : (k < A.length → wr.cell? ⟨ba, k, none⟩ = some (.int .u32 (A.getD k 0 : Nat))) := fun h => by rw [getD_lt h]; exact (RA.out.below HW.out.below).cell k h
        have hcb2 : (k < B.length → wr.cell? ⟨bb, k, none⟩ = some (.int .u32 (B.getD k 0 : Nat))) := fun h => by rw [getD_lt h]; exact (RB.out.below HW.out.below).cell k h
        have hza : (¬ k < A.length → A.getD k 0 = 0) := getD_out
        have hzb : (¬ k < B.length → B.getD k 0 = 0) := getD_out
        have hla := (RA.out.below HW.out.below).lt
        have hlb := (RB.out.below HW.out.below).lt
        have hlz : O.length = B.length + 1 := hlen
        clear HM hlen hlz
        generalize A.getD k 0 = x at *
        generalize B.getD k 0 = y at *
        by_cases hja : k < A.length <;> by_cases hjb : k < B.length
        · have hca' := hca hja
          have hcb' := hcb2 hjb
          clear hca hcb2 hza hzb
          go_wp2
          go_roundw
          case rel => exact ⟨k + 1, (c + x + y) / 65536, O.set k ((c + x + y) % 65536), by omega, by go_num, by first | rfl | go_num, HS, by rw [low16i _ (by omega) (by omega)]; exact cast_own (HST.out _) (by omega)⟩
          case measure => simp [intOf]; first | done | omega
        · exfalso; omega
        · obtain rfl := hza hja
          have hcb' := hcb2 hjb
          clear hca hcb2 hza hzb
          go_wp2
          go_roundw
          case rel => exact ⟨k + 1, (c + 0 + y) / 65536, O.set k ((c + 0 + y) % 65536), by omega, by go_num, by first | rfl | go_num, HS, by rw [low16i _ (by omega) (by omega)]; exact cast_own (HST.out _) (by omega)⟩
          case measure => simp [intOf]; first | done | omega
        · obtain rfl := hzb hjb
          obtain rfl := hza hja
          clear hca hcb2 hza hzb
          go_wp2
          go_roundw
          case rel => exact ⟨k + 1, (c + 0 + 0) / 65536, O.set k ((c + 0 + 0) % 65536), by omega, by go_num, by first | rfl | go_num, HS, by rw [low16i _ (by omega) (by omega)]; exact cast_own (HST.out _) (by omega)⟩
          case measure => simp [intOf]; first | done | omega
      · have hke : k = B.length + 1 := by omega
        subst hke
        go_wp2
        go_ret
        exact HW.out.gave' HM.out.lt (HM.out.done (by omega) RA.out.dig RB.out.dig HNA.out) (by rw [HM.out.len, HNA.out]; exact Nat.le_refl _) HM.out.len
  · have HNA : Hid (A.length + 1 = max A.length B.length + 1) := by have := HN.out; show _ = _; omega
    go_enter Try.func92, Try.ntmps92
    go_wp2_with (first | (at_make; refine wpList_make_full _ rfl _ _ 71 rfl w.heap.size 39 i0 (.int .u32 0) 1 Try.underlying71 hi0 hz0 hz1 .i64 .i64 _ _ (A.length + 1) rfl rfl (by go_num) (by go_num) (by rw [hz2]; omega) (by unfold maxLen; omega) (Nat.le_refl _) ?_; intro w1 hown1 hgrow1))
    have hO : Own w w.heap.size (List.replicate (A.length + 1) 0) w1 := by
      refine ⟨?_, (Below.refl _ _).grown hgrow1 (Nat.le_refl _) (fun k h => by cases h)⟩
      rw [cu_zero] at hown1
      rw [List.length_replicate]; exact hown1
    have HO := Lib.hid hO
    clear hO hown1 hgrow1 hi0 hz0 hz1 hz2
    have hAN : A.length ≤ A.length := by omega
    have hBN : B.length ≤ A.length := by omega
    clear hc
    go_loopw [6, 7] (fun vc vi wr => ∃ k c O, k ≤ A.length + 1 ∧ vi = .int .i64 ((k : Nat) : Int) ∧ vc = .int .u32 ((c : Nat) : Int) ∧ Hid (AddAt 65536 A B (A.length + 1) k c O) ∧ Hid (Own w w.heap.size O wr)) (fun _ vi _ => A.length + 1 - (intOf vi).toNat)
    case atStart => exact ⟨0, 0, _, Nat.zero_le _, rfl, rfl, AddAt.start _ (by omega) A B _, HO⟩
    case round =>
      obtain ⟨k, c, O, hk, rfl, rfl, HM, HW⟩ := hrel
      clear HO
      by_cases hlt : k < A.length + 1
      · have hxb := getD_bd (β := 65536) (by omega) RA.out.dig k
        have hyb := getD_bd (β := 65536) (by omega) RB.out.dig k
        have HS := Lib.hid (HM.out.step (by omega) hxb hyb hlt)
        have hlen := HM.out.len
        have hcell := HW.out.cell k (by omega)
        have hfz := HW.out.frozen k
        generalize O[k]'(by omega) = o at hcell
        have hcb := HM.out.carry
        have HST := Lib.hid fun d => HW.out.store k d
        have hca : (k < A.length → wr.cell? ⟨ba, k, none⟩ = some (.int .u32 (A.getD k 0 : Nat))) := fun h => by rw [getD_lt h]; exact (RA.out.below HW.out.below).cell k h
        have hcb2 : (k < B.length → wr.cell? ⟨bb, k, none⟩ = some (.int .u32 (B.getD k 0 : Nat))) := fun h => by rw [getD_lt h]; exact (RB.out.below HW.out.below).cell k h
        have hza : (¬ k < A.length → A.getD k 0 = 0) := getD_out
        have hzb : (¬ k < B.length → B.getD k 0 = 0) := getD_out
        have hla := (RA.out.below HW.out.below).lt
        have hlb := (RB.out.below HW.out.below).lt
        have hlz : O.length = A.length + 1 := hlen
        clear HM hlen hlz
        generalize A.getD k 0 = x at *
        generalize B.getD k 0 = y at *
        by_cases hja : k < A.length <;> by_cases hjb : k < B.length
        · have hca' := hca hja
          have hcb' := hcb2 hjb
          clear hca hcb2 hza hzb
          go_wp2
          go_roundw
          case rel => exact ⟨k + 1, (c + x + y) / 65536, O.set k ((c + x + y) % 65536), by omega, by go_num, by first | rfl | go_num, HS, by rw [low16i _ (by omega) (by omega)]; exact cast_own (HST.out _) (by omega)⟩
          case measure => simp [intOf]; first | done | omega
        · obtain rfl := hzb hjb
          have hca' := hca hja
          clear hca hcb2 hza hzb
          go_wp2
          go_roundw
          case rel => exact ⟨k + 1, (c + x + 0) / 65536, O.set k ((c + x + 0) % 65536), by omega, by go_num, by first | rfl | go_num, HS, by rw [low16i _ (by omega) (by omega)]; exact cast_own (HST.out _) (by omega)⟩
          case measure => simp [intOf]; first | done | omega
        · exfalso; omega
        · obtain rfl := hzb hjb
          obtain rfl := hza hja
          clear hca hcb2 hza hzb
          go_wp2
          go_roundw
          case rel => exact ⟨k + 1, (c + 0 + 0) / 65536, O.set k ((c + 0 + 0) % 65536), by omega, by go_num, by first | rfl | go_num, HS, by rw [low16i _ (by omega) (by omega)]; exact cast_own (HST.out _) (by omega)⟩
          case measure => simp [intOf]; first | done | omega
      · have hke : k = A.length + 1 := by omega
        subst hke
        go_wp2
        go_ret
        exact HW.out.gave' HM.out.lt (HM.out.done (by omega) RA.out.dig RB.out.dig HNA.out) (by rw [HM.out.len, HNA.out]; exact Nat.le_refl _) HM.out.len
end Go.Proofs.Ytoihdhmgjfoclaa
