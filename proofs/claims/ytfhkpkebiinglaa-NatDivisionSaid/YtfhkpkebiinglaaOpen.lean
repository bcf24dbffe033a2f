/-
  The walk of open: a number's bytes as limbs.
-/
import Derived.Test.YtfhkpkebiinglaaMem
import Derived.Test.YtfhkpkebiinglaaPm
import Derived.RegionTactic
import Derived.ChangeAlike
import Derived.BigRegion
namespace Go.Proofs.Ytfhkpkebiinglaa
open Go.RowKit

/-- A number's bytes, the lowest first. -/
def bytesR (s : ByteArray) : List Nat := s.data.toList.reverse.map UInt8.toNat
def bval (s : ByteArray) : Nat := dval 256 (bytesR s)

theorem bytesR_len (s : ByteArray) : (bytesR s).length = s.size := by simp [bytesR]
theorem bytesR_lt (s : ByteArray) : ∀ d ∈ bytesR s, d < 256 := by
  intro d hd
  simp only [bytesR, List.mem_map] at hd
  obtain ⟨u, _, rfl⟩ := hd
  exact u.toNat_lt
theorem bytesR_get (s : ByteArray) (i : Nat) (h : i < (bytesR s).length) (m : Nat) (hm : m = s.size - 1 - i) (hms : m < s.size) : (bytesR s)[i] = s[m].toNat := by
  subst hm
  simp only [bytesR, List.getElem_map, List.getElem_reverse]
  rfl

structure OpenAt (l : List Nat) (i : Nat) (L : List Nat) : Prop where
  len : L.length = (l.length + 3) / 4
  lt : ∀ d ∈ L, d < 4294967296
  low : ∀ j, i / 4 < j → L.getD j 0 = 0
  cur : L.getD (i / 4) 0 < 256 ^ (i % 4)
  val : dval 4294967296 L = dval 256 (l.take i)
theorem pow_split (i : Nat) : 256 ^ (i % 4) * 4294967296 ^ (i / 4) = 256 ^ i := by
  have e : (4294967296 : Nat) = 256 ^ 4 := rfl
  rw [e, ← Nat.pow_mul, ← Nat.pow_add]
  congr 1; omega
theorem OpenAt.start (l : List Nat) : OpenAt l 0 (List.replicate ((l.length + 3) / 4) 0) := by
  have z : ∀ j, (List.replicate ((l.length + 3) / 4) 0).getD j 0 = 0 := by
    intro j
    simp only [List.getD]
    rw [List.getElem?_replicate]
    split <;> rfl
  refine ⟨by simp, fun d hd => by rw [List.eq_of_mem_replicate hd]; omega, fun j _ => z j, by rw [z]; simp, ?_⟩
  have := dval_zeros 4294967296 [] ((l.length + 3) / 4)
  simp only [List.nil_append] at this
  rw [this]; simp [dval]
theorem OpenAt.step {l : List Nat} {i : Nat} {L : List Nat} (h : OpenAt l i L) (hl : ∀ d ∈ l, d < 256) (hi : i < l.length) : OpenAt l (i + 1) (L.set (i / 4) (L.getD (i / 4) 0 + l[i] * 256 ^ (i % 4))) := by
  have hj : i / 4 < L.length := by rw [h.len]; omega
  have hb := hl _ (List.getElem_mem hi)
  have hlt : L.getD (i / 4) 0 + l[i] * 256 ^ (i % 4) < 256 ^ (i % 4 + 1) := by
    have := h.cur
    have h2 : l[i] * 256 ^ (i % 4) ≤ 255 * 256 ^ (i % 4) := Nat.mul_le_mul_right _ (by omega)
    rw [Nat.pow_succ]; omega
  have hcap : 256 ^ (i % 4 + 1) ≤ 4294967296 := by
    have e : (4294967296 : Nat) = 256 ^ 4 := rfl
    rw [e]; exact Nat.pow_le_pow_right (by omega) (by omega)
  refine ⟨by simp [h.len], mem_set_lt h.lt (by omega), fun j hj' => ?_, ?_, ?_⟩
  · rw [getD_set_ne (by omega)]; exact h.low j (by omega)
  · by_cases hc : (i + 1) / 4 = i / 4
    · rw [hc]
      have e : (i + 1) % 4 = i % 4 + 1 := by omega
      rw [e]
      simp only [List.getD] at hlt ⊢
      rw [List.getElem?_set_self hj]; exact hlt
    · rw [getD_set_ne (by omega), h.low _ (by omega)]
      exact Nat.pos_of_ne_zero (by have := Nat.pow_pos (n := (i + 1) % 4) (show 0 < 256 by omega); omega)
  · have e := dval_set 4294967296 L (i / 4) (L.getD (i / 4) 0 + l[i] * 256 ^ (i % 4)) hj
    rw [dval_take_succ 256 l i hi, ← h.val, ← pow_split i]
    rw [Nat.add_mul] at e
    have e2 : l[i] * 256 ^ (i % 4) * 4294967296 ^ (i / 4) = 256 ^ (i % 4) * 4294967296 ^ (i / 4) * l[i] := by
      rw [Nat.mul_assoc, Nat.mul_comm]
    omega
theorem bits_or32 (x y : Nat) (hx : x < 4294967296) (hy : y < 4294967296) : bits .or .u32 (x : Int) (y : Int) = ((x ||| y : Nat) : Int) := by
  have h : x ||| y < 2 ^ 32 := Nat.or_lt_two_pow (by omega) (by omega)
  have key : bits .or .u32 (x : Int) (y : Int) = IntKind.u32.wrap ((BitVec.ofNat 32 x ||| BitVec.ofNat 32 y).toNat : Int) := by
    rw [← BitVec.ofInt_natCast, ← BitVec.ofInt_natCast]; rfl
  rw [key, IntKind.wrap_u32, BitVec.toNat_or, BitVec.toNat_ofNat, BitVec.toNat_ofNat, Nat.mod_eq_of_lt (a := x) (by omega), Nat.mod_eq_of_lt (a := y) (by omega)]
  omega
theorem open_or (d b r : Nat) (hd : d < 256 ^ r) (hb : b < 256) (hr : r < 4) : bits .or .u32 (d : Int) ((b : Int) % 4294967296 * 2 ^ (8 * r) % 4294967296) = ((d + b * 256 ^ r : Nat) : Int) := by
  have e8 : (2 : Nat) ^ (8 * r) = 256 ^ r := by rw [Nat.pow_mul]
  have h4 : 256 ^ (r + 1) ≤ 256 ^ 4 := Nat.pow_le_pow_right (by omega) (by omega)
  have h4' : 256 ^ r * 256 ≤ 4294967296 := by rw [← Nat.pow_succ]; exact h4
  have hbr : b * 256 ^ r ≤ 255 * 256 ^ r := Nat.mul_le_mul_right _ (by omega)
  have e1 : ((b : Int) % 4294967296 * 2 ^ (8 * r) % 4294967296) = ((b * 256 ^ r : Nat) : Int) := by
    have : (b : Int) % 4294967296 = b := by omega
    rw [this]
    have e2 : (b : Int) * 2 ^ (8 * r) = ((b * 256 ^ r : Nat) : Int) := by rw [← e8]; push_cast; rfl
    rw [e2]; omega
  rw [e1, bits_or32 d _ (by omega) (by omega)]
  congr 1
  rw [← e8] at hd ⊢
  have := Nat.two_pow_add_eq_or_of_lt hd b
  rw [Nat.or_comm, Nat.mul_comm b, ← this]
  omega

set_option maxHeartbeats 400000 in
theorem open_any (s : ByteArray) (hs : s.size ≤ 100000) (w : World) :
    Calls Try.prog 60 #[.string s] w (fun e w' => ∃ v L, e = .returned v ∧ w'.ownsRow w.heap.size 91 1 v L.length (cu .u32 L) ∧ dval 4294967296 L = bval s ∧ (∀ d ∈ L, d < 4294967296) ∧ L.length = (s.size + 3) / 4 ∧ Below w.heap.size w w') := by
  obtain ⟨i0, hi0, hz0, hz1, hz2⟩ := info_parts info91
  go_enter Try.func60, Try.ntmps60
  go_wp2_with (first | (at_make; refine wpList_make_full _ rfl _ _ 77 rfl w.heap.size 91 i0 (.int .u32 0) 1 Try.underlying77 hi0 hz0 hz1 .i64 .i64 _ _ ((s.size + 3) / 4) rfl rfl (by go_num) (by go_num) (by rw [hz2]; omega) (by unfold maxLen; omega) (Nat.le_refl _) ?_; intro w1 hown1 hgrow1))
  have hO : Own w 91 .u32 w.heap.size (List.replicate ((s.size + 3) / 4) 0) w1 := by
    refine ⟨?_, (Below.refl _ _).grown hgrow1 (Nat.le_refl _) (fun k h => by cases h)⟩
    rw [cu_zero] at hown1
    rw [List.length_replicate]; exact hown1
  have HO := Lib.hid hO
  clear hO hown1 hgrow1 hi0 hz0 hz1 hz2
  go_loopw [13] (fun vi wr => ∃ i L, i ≤ s.size ∧ vi = .int .i64 ((i : Nat) : Int) ∧ OpenAt (bytesR s) i L ∧ Own w 91 .u32 w.heap.size L wr) (fun vi _ => s.size - (intOf vi).toNat)
  case atStart => exact ⟨0, _, Nat.zero_le _, rfl, by have := OpenAt.start (bytesR s); rw [bytesR_len] at this; exact this, HO.out⟩
  case round =>
    obtain ⟨i, L, hi, rfl, hm, ho⟩ := hrel
    have HM := Lib.hid hm
    have HW := Lib.hid ho
    clear hm ho
    by_cases hlt : i < s.size
    · have hlen : L.length = (s.size + 3) / 4 := by have := HM.out.len; simpa [bytesR] using this
      have hj : i / 4 < L.length := by omega
      have hcell := HW.out.cell (i / 4) hj
      have hfz := HW.out.frozen (i / 4)
      have hcur := HM.out.cur
      rw [getD_lt hj] at hcur
      have HS := Lib.hid (HM.out.step (bytesR_lt s) (by rw [bytesR_len]; exact hlt))
      rw [getD_lt hj] at HS
      have HST := Lib.hid (fun d => HW.out.store (i / 4) d)
      generalize L[i / 4] = d at hcell hcur HS
      have HCU := Lib.hid hcur
      clear hcur
      obtain ⟨m, hmi⟩ : ∃ m, m = s.size - 1 - i := ⟨_, rfl⟩
      have hmlt : m < s.size := by omega
      have em : (s.size : Int) - 1 - i = m := by omega
      rw [bytesR_get s i _ m hmi hmlt] at HS
      have HMI := Lib.hid hmi
      clear hmi
      have hx0 : (0 : Int) ≤ (i : Int) / 4 := by omega
      have hx1 : (i : Int) / 4 < (((s.size + 3) / 4 : Nat) : Int) := by omega
      have hx2 : ((i : Int) / 4).toNat = i / 4 := by omega
      have HL := Lib.hid hlen
      have HJ := Lib.hid hj
      clear hlen hj
      go_wp2
      go_region
      go_wp2
      have hor := open_or d s[m].toNat (i % 4) HCU.out s[m].toNat_lt (by omega)
      go_roundw
      case rel =>
        refine ⟨i + 1, _, by omega, by go_num, HS.out, ?_⟩
        rw [hor]
        have := HST.out (d + s[m].toNat * 256 ^ (i % 4))
        exact ⟨this.own, this.below.drew⟩
      case measure => simp [intOf]; omega
    · have hie : i = s.size := by omega
      subst hie
      go_wp2
      go_ret
      have hv := HM.out.val
      rw [List.take_of_length_le (by rw [bytesR_len]; exact Nat.le_refl _)] at hv
      have hlen : L.length = (s.size + 3) / 4 := by rw [HM.out.len, bytesR_len]
      refine ⟨_, L, rfl, ?_, hv, HM.out.lt, hlen, HW.out.below⟩
      have := HW.out.own
      rw [hlen] at this ⊢
      exact this
end Go.Proofs.Ytfhkpkebiinglaa
