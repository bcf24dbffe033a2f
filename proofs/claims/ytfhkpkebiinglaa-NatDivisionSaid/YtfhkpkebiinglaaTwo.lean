/-
  The walks of Low, and of the reference's Of, Small, Low.
-/
import Derived.Test.YtfhkpkebiinglaaOne
namespace Go.Proofs.Ytfhkpkebiinglaa
open Go.RowKit

/-- The lowest bit that is set. -/
def IsLow (x n : Nat) : Prop := x / 2 ^ n % 2 = 1 ∧ ∀ j, j < n → x / 2 ^ j % 2 = 0
theorem IsLow.eq {x n m : Nat} (h : IsLow x n) (k : IsLow x m) : n = m := by
  rcases Nat.lt_trichotomy n m with h1 | h1 | h1
  · have := k.2 n h1; rw [h.1] at this; omega
  · exact h1
  · have := h.2 m h1; rw [k.1] at this; omega
/-- What a Low answers. -/
def LowIs (x : Nat) (n : Nat) : Prop := if x = 0 then n = 0 else IsLow x n
theorem LowIs.eq {x n m : Nat} (h : LowIs x n) (k : LowIs x m) : n = m := by
  unfold LowIs at h k
  by_cases h0 : x = 0
  · rw [if_pos h0] at h k; omega
  · rw [if_neg h0] at h k; exact h.eq k
theorem tz8 : ∀ n : Fin 256, n.val ≠ 0 → (n.val / 2 ^ (Lib.trailingZeros8 n.val) % 2 = 1 ∧ Lib.trailingZeros8 n.val < 8 ∧ ∀ j : Fin 8, j.val < Lib.trailingZeros8 n.val → n.val / 2 ^ j.val % 2 = 0) := by decide +kernel
/-- Bytes below are nought: the lowest bit lies in this byte. -/
theorem low_byte (a : ByteArray) (i m : Nat) (hm : m = a.size - 1 - i) (hi : i < a.size) (hms : m < a.size) (hz : ∀ j, j < 8 * i → bval a / 2 ^ j % 2 = 0) :
    (a[m].toNat ≠ 0 → IsLow (bval a) (8 * i + Lib.trailingZeros8 a[m].toNat)) ∧ (a[m].toNat = 0 → ∀ j, j < 8 * (i + 1) → bval a / 2 ^ j % 2 = 0) := by
  have bit : ∀ r, r < 8 → bval a / 2 ^ (8 * i + r) % 2 = a[m].toNat / 2 ^ r % 2 := fun r hr => by
    have h := bit_val a (8 * i + r) m (by rw [hm]; congr 1; omega) hms (by omega)
    rw [← h, show (8 * i + r) % 8 = r by omega]
  constructor
  · intro h0
    obtain ⟨t1, t2, t3⟩ : a[m].toNat / 2 ^ (Lib.trailingZeros8 a[m].toNat) % 2 = 1 ∧ Lib.trailingZeros8 a[m].toNat < 8 ∧ ∀ j : Fin 8, j.val < Lib.trailingZeros8 a[m].toNat → a[m].toNat / 2 ^ j.val % 2 = 0 := tz8 ⟨a[m].toNat, UInt8.toNat_lt _⟩ h0
    refine ⟨by rw [bit _ t2]; exact t1, fun j hj => ?_⟩
    by_cases hji : j < 8 * i
    · exact hz j hji
    · have := t3 ⟨j - 8 * i, by omega⟩ (show j - 8 * i < _ by omega)
      have h := bit (j - 8 * i) (by omega)
      rw [show 8 * i + (j - 8 * i) = j by omega] at h
      rw [h]; exact this
  · intro h0 j hj
    by_cases hji : j < 8 * i
    · exact hz j hji
    · have h := bit (j - 8 * i) (by omega)
      rw [show 8 * i + (j - 8 * i) = j by omega, h0] at h
      rw [h]; simp
theorem tz8_le : ∀ n : Fin 256, Lib.trailingZeros8 n.val ≤ 8 := by decide +kernel
/-- A number without any bit is nought. -/
theorem no_bits (x k : Nat) (hx : x < 2 ^ k) (h : ∀ j, j < k → x / 2 ^ j % 2 = 0) : x = 0 := by
  induction k with
  | zero => simpa using hx
  | succ k ih => exact ih (bit_down x k (h k (by omega)) hx) fun j hj => h j (by omega)

set_option maxRecDepth 20000 in
theorem Low_any (a : ByteArray) (w : World) (ha : a.size ≤ maxLen) :
    Calls Try.prog 50 #[.string a] w fun e w' => ∃ n : Nat, (Ok a → LowIs (bval a) n) ∧ e = .returned (if Ok a then .tuple #[.int .i64 (n : Int), .int .i64 0] else .tuple #[.int .i64 0, .int .i64 2]) ∧ Below w.heap.size w w' := by
  have HM := Lib.hid fun t ht => may_one a w ha t ht
  by_cases hok : Ok a
  · have HM2 := Lib.hid (HM.out true (by simp [hok]))
    simp only [hok, if_true, true_implies]
    have ha1 := hok.1
    have HLB := Lib.hid (low_byte a)
    have HLT : Hid (bval a < 2 ^ (8 * a.size)) := by show _ < _; rw [two_pow_8]; exact bval_lt a
    clear hok ha HM
    generalize bval a = x at *
    go_enter Try.func50, Try.ntmps50
    go_wp2_with (go_at_call 58; refine HM2.out.mono ?_; rintro e w1 ⟨rfl, B1⟩)
    go_loopw [12] (fun vi wr => ∃ i : Nat, i ≤ a.size ∧ vi = .int .i64 (i : Int) ∧ Hid (∀ j, j < 8 * i → x / 2 ^ j % 2 = 0) ∧ Hid (w1 = wr)) (fun vi _ => a.size - (intOf vi).toNat)
    case atStart => exact ⟨0, Nat.zero_le _, rfl, fun j hj => absurd hj (Nat.not_lt_zero _), rfl⟩
    case round =>
      obtain ⟨i, hi, rfl, HZ, HW⟩ := hrel
      obtain rfl := HW.out
      by_cases hlt : i < a.size
      · obtain ⟨m, hm⟩ : ∃ m, m = a.size - 1 - i := ⟨_, rfl⟩
        have hms : m < a.size := by omega
        have h := HLB.out i m hm hlt hms HZ.out
        have e3 : (a.size : Int) - 1 - (i : Int) = (m : Int) := by omega
        have hx8 := UInt8.toNat_lt a[m]
        have htz := tz8_le ⟨a[m].toNat, hx8⟩
        have htz2 : Lib.trailingZeros8 a[m].toNat ≤ 8 := htz
        have H1 := Lib.hid h.1
        have H2 := Lib.hid h.2
        clear h hm htz HLB HLT
        by_cases h0 : a[m].toNat = 0
        · have HN := Lib.hid (H2.out h0)
          go_wp2
          go_roundw
          case rel => exact ⟨i + 1, by omega, by go_num, HN, by first | exact rfl | exact trivial⟩
          case measure => simp [intOf]; omega
        · have HN := Lib.hid (H1.out h0)
          have hne : ((a[m].toNat : Int) != 0) = true := by rw [bne_iff_ne]; omega
          clear H1 H2
          go_wp2_with (go_at_call 81; refine (Try.bits_TrailingZeros8 _ _ (by omega) (by omega)).mono ?_; rintro e w2 ⟨rfl, hw⟩; have hw2 := hw.symm; subst hw2; rw [Int.toNat_natCast])
          go_ret2
          refine ⟨8 * i + Lib.trailingZeros8 a[m].toNat, ?_, ?_, B1⟩
          · unfold LowIs
            rw [if_neg (fun e => by have := HN.out.1; rw [e] at this; simp at this)]
            exact HN.out
          · have e : (8 : Int) * (i : Int) + (Lib.trailingZeros8 a[m].toNat : Int) = ((8 * i + Lib.trailingZeros8 a[m].toNat : Nat) : Int) := by omega
            rw [← e]
            rfl
      · have hie : i = a.size := by omega
        have hx0 : Hid (x = 0) := no_bits x (8 * a.size) HLT.out (by rw [← hie]; exact HZ.out)
        clear HLB HLT
        go_wp2
        go_ret2
        exact ⟨0, by unfold LowIs; rw [if_pos hx0.out], rfl, B1⟩
  · have HM2 := Lib.hid (HM.out false (by simp only [hok, decide_false]))
    simp only [hok, if_false, false_implies, true_and]
    clear hok HM
    go_enter Try.func50, Try.ntmps50
    go_wp2_with (go_at_call 58; refine HM2.out.mono ?_; rintro e w1 ⟨rfl, B1⟩)
    go_ret2
    exact ⟨0, rfl, B1⟩

set_option maxRecDepth 20000 in
theorem rLow_any (a : ByteArray) (hok : Ok a) (w : World) :
    Calls Try.prog 53 #[.string a] w fun e w' => ∃ n : Nat, LowIs (bval a) n ∧ e = .returned (.int .i64 (n : Int)) ∧ w = w' := by
  have hz : a.toList.isEmpty = decide (a.size = 0) := isEmpty_size a
  have h0 := ok_zero a hok
  have ha1 := hok.1
  by_cases ha0 : a.size = 0
  · have hx0 : Hid (bval a = 0) := h0.2 ha0
    have hz2 : a.toList.isEmpty = true := by rw [hz]; simp [ha0]
    have hz3 : a.toList = [] := (toList_nil a).2 ha0
    clear hz h0 hok
    go_enter Try.func53, Try.ntmps53
    go_wp2
    go_ret
    exact ⟨0, by unfold LowIs; rw [if_pos hx0.out], rfl, rfl⟩
  · have hz2 : a.toList.isEmpty = false := by rw [hz]; simp [ha0]
    have hz3 : ¬ a.toList = [] := fun h => ha0 ((toList_nil a).1 h)
    have hx0 : Hid (bval a ≠ 0) := fun e => ha0 (h0.1 e)
    have HB := Lib.hid fun i hi W => rBit_any a (by omega) i hi W
    have HLT : Hid (bval a < 2 ^ (8 * a.size)) := by show _ < _; rw [two_pow_8]; exact bval_lt a
    clear hz h0 hok
    generalize bval a = x at *
    go_enter Try.func53, Try.ntmps53
    go_wp2_with fail
    go_loopw [3] (fun vi wr => ∃ k : Nat, k ≤ 8 * a.size ∧ vi = .int .i64 (k : Int) ∧ Hid (∀ j, j < k → x / 2 ^ j % 2 = 0) ∧ Hid (w = wr)) (fun vi _ => 8 * a.size - (intOf vi).toNat)
    case atStart => exact ⟨0, Nat.zero_le _, rfl, fun j hj => absurd hj (Nat.not_lt_zero _), rfl⟩
    case round =>
      obtain ⟨k, hk, rfl, HZ, HW⟩ := hrel
      obtain rfl := HW.out
      have hk2 : k < 8 * a.size := by
        rcases Nat.lt_or_ge k (8 * a.size) with h | h
        · exact h
        · exact absurd (no_bits x (8 * a.size) HLT.out (fun j hj => HZ.out j (by omega))) hx0.out
      have HB2 := Lib.hid fun W => HB.out k (by omega) W
      by_cases hb : x / 2 ^ k % 2 = 1
      · rw [hb] at HB2
        have HN : Hid (IsLow x k) := ⟨hb, HZ.out⟩
        clear hb HB
        go_wp2_with (go_at_call 54; refine (HB2.out _).mono ?_; rintro e w' ⟨rfl, rfl⟩)
        go_ret
        exact ⟨k, by unfold LowIs; rw [if_neg hx0.out]; exact HN.out, rfl, rfl⟩
      · have hb0 : x / 2 ^ k % 2 = 0 := by omega
        rw [hb0] at HB2
        have HN : Hid (∀ j, j < k + 1 → x / 2 ^ j % 2 = 0) := fun j hj => by
          by_cases e : j = k
          · subst e; exact hb0
          · exact HZ.out j (by omega)
        clear hb hb0 HB
        go_wp2_with (go_at_call 54; refine (HB2.out _).mono ?_; rintro e w' ⟨rfl, rfl⟩)
        go_roundw
        case rel => exact ⟨k + 1, by omega, by go_num, HN, by first | exact rfl | exact trivial⟩
        case measure => simp [intOf]; omega

set_option maxRecDepth 20000 in
theorem rSmall_any (a : ByteArray) (ha : a.size ≤ maxLen) (w : World) :
    Calls Try.prog 45 #[.string a] w fun e w' => e = .returned (if Ok a ∧ a.size ≤ 8 then .tuple #[.int .u64 (bval a : Nat), .bool true] else .tuple #[.int .u64 0, .bool false]) ∧ w = w' := by
  have HM := Lib.hid (refMay_any a w ha)
  by_cases hok : Ok a
  · rw [decide_eq_true hok] at HM
    by_cases h8 : a.size ≤ 8
    · rw [if_pos ⟨hok, h8⟩]
      have HST : Hid (∀ i (hi : i < a.size), dval 256 ((bytesR a).drop (a.size - (i + 1))) = 256 * dval 256 ((bytesR a).drop (a.size - i)) + a[i].toNat) := fun i hi => by
        have h1 : a.size - (i + 1) < (bytesR a).length := by rw [bytesR_len]; omega
        rw [List.drop_eq_getElem_cons h1, bytesR_get a _ h1 i (by omega) hi, show a.size - (i + 1) + 1 = a.size - i by omega]
        simp only [dval]; omega
      have HLE : Hid (∀ i, i < a.size → dval 256 ((bytesR a).drop (a.size - i)) < 72057594037927936) := fun i hi => by
        have := dval_lt 256 ((bytesR a).drop (a.size - i)) fun d hd => bytesR_lt a d (List.mem_of_mem_drop hd)
        rw [List.length_drop, bytesR_len] at this
        exact Nat.lt_of_lt_of_le this (Nat.pow_le_pow_right (n := 256) (j := 7) (by omega) (by omega))
      have HFIN : Hid (dval 256 ((bytesR a).drop (a.size - a.size)) = bval a) := by show _ = _; rw [Nat.sub_self, List.drop_zero]; rfl
      have HBEG : Hid (dval 256 ((bytesR a).drop (a.size - 0)) = 0) := by show _ = _; rw [List.drop_of_length_le (by rw [bytesR_len]; omega)]; rfl
      clear hok ha
      go_enter Try.func45, Try.ntmps45
      go_wp2_with (go_at_call 62; refine HM.out.mono ?_; rintro e w1 ⟨rfl, rfl⟩)
      go_loopw [4, 5] (fun vn vi wr => ∃ i v : Nat, i ≤ a.size ∧ vi = .int .i64 (i : Int) ∧ vn = .int .u64 (v : Int) ∧ Hid (v = dval 256 ((bytesR a).drop (a.size - i))) ∧ Hid (w = wr)) (fun _ vi _ => a.size - (intOf vi).toNat)
      case atStart => exact ⟨0, 0, Nat.zero_le _, rfl, rfl, HBEG.out.symm, rfl⟩
      case round =>
        obtain ⟨i, v, hi, rfl, rfl, HV, HW⟩ := hrel
        obtain rfl := HW.out
        by_cases hlt : i < a.size
        · have hv : v < 72057594037927936 := by rw [HV.out]; exact HLE.out i hlt
          have hx := UInt8.toNat_lt a[i]
          have HN : Hid (256 * v + a[i].toNat = dval 256 ((bytesR a).drop (a.size - (i + 1)))) := by show _ = _; rw [HST.out i hlt, ← HV.out]
          go_wp2
          go_roundw
          case rel => exact ⟨i + 1, 256 * v + a[i].toNat, by omega, by go_num, by first | rfl | (congr 1), HN, by first | exact rfl | exact trivial⟩
          case measure => simp [intOf]; omega
        · have hie : i = a.size := by omega
          subst hie
          have HE : Hid (v = bval a) := HV.out.trans HFIN.out
          go_wp2
          go_ret2
          exact ⟨by rw [← HE.out]; rfl, rfl⟩
    · rw [if_neg (fun h => h8 h.2)]
      have h8z : (8 : Int) < (a.size : Int) := by omega
      clear hok ha
      go_enter Try.func45, Try.ntmps45
      go_wp2_with (go_at_call 62; refine HM.out.mono ?_; rintro e w1 ⟨rfl, rfl⟩)
      go_ret2
      exact ⟨rfl, rfl⟩
  · rw [decide_eq_false hok] at HM
    rw [if_neg (fun h => hok h.1)]
    clear hok
    go_enter Try.func45, Try.ntmps45
    go_wp2_with (go_at_call 62; refine HM.out.mono ?_; rintro e w1 ⟨rfl, rfl⟩)
    go_ret2
    exact ⟨rfl, rfl⟩

set_option maxRecDepth 20000 in
theorem rOf_any (n : Nat) (hn : n < 18446744073709551616) (w : World) :
    Calls Try.prog 48 #[.int .u64 (n : Int)] w fun e w' => e = .returned (.string (enc n)) ∧ Below w.heap.size w w' := by
  go_enter Try.func48, Try.ntmps48
  go_wp2
  go_loopw [0, 3] (fun vn vo wr => ∃ (m : Nat) (L : List Nat), vn = .int .u64 (m : Int) ∧ m < 18446744073709551616 ∧ L.length ≤ 8 ∧ Hid (∀ d ∈ L, d < 256) ∧ Hid (dval 256 L + 256 ^ L.length * m = n) ∧ Hid (m < 256 ^ (8 - L.length)) ∧ Hid (Ap w 3 .i64 vo L wr)) (fun vn _ _ => (intOf vn).toNat)
  case atStart => exact ⟨n, [], rfl, hn, Nat.zero_le _, (fun d h => by cases h), by show _ = _; simp [dval], by show _ < _; simpa using hn, Ap.nil _ _ _⟩
  case round =>
    obtain ⟨m, L, rfl, hm, hL, HL, HV, HB, HW⟩ := hrel
    by_cases h0 : 0 < m
    · have hL8 : L.length < 8 := by
        rcases Nat.lt_or_ge L.length 8 with h | h
        · exact h
        · exfalso
          have h2 := HB.out
          rw [show 8 - L.length = 0 by omega] at h2
          simp at h2
          omega
      have HN1 : Hid (dval 256 (L ++ [m % 256]) + 256 ^ (L ++ [m % 256]).length * (m / 256) = n) := by
        show _ = _
        rw [dval_snoc, List.length_append, List.length_singleton, Nat.pow_succ, Nat.add_assoc, Nat.mul_assoc, ← Nat.mul_add, Nat.mod_add_div]
        exact HV.out
      have HN2 : Hid (m / 256 < 256 ^ (8 - (L ++ [m % 256]).length)) := by
        show _ < _
        rw [List.length_append, List.length_singleton]
        have h2 := HB.out
        rw [show 8 - L.length = (8 - (L.length + 1)) + 1 by omega, Nat.pow_succ] at h2
        exact (Nat.div_lt_iff_lt_mul (by omega)).2 h2
      have HLN : Hid (L.length ≤ 10000000) := by show _ ≤ _; omega
      have h0z : (0 : Int) < (m : Int) := by omega
      have hmm : (m % 256 : Nat) < 256 := Nat.mod_lt _ (by omega)
      go_wp2_with (first | (at_builtin; refine wpList_append_one rfl _ _ 84 rfl Try.underlying84 info3 rfl (by omega) w HW.out (m % 256) _ rfl rfl (by first | go_num | omega) HLN.out ?_; intro v1 w2 hap1))
      go_roundw
      case rel => exact ⟨m / 256, L ++ [m % 256], rfl, by omega, by simp; omega, snoc_lt HL.out hmm, HN1, HN2, hap1⟩
      case measure => simp [intOf]; omega
    · have hm0 : m = 0 := by omega
      subst hm0
      have hv := HV.out
      rw [Nat.mul_zero, Nat.add_zero] at hv
      have HVV := Lib.hid hv
      obtain ⟨ao, co, hvo, hr⟩ := own_slice HW.out.own
      subst hvo
      have hmx := hr.max
      have hle := hr.le
      unfold maxLen at hmx
      have HMD := Lib.hid (made_any ao L.length co L rfl HL.out (by omega) wr hr)
      rw [HVV.out] at HMD
      clear hr hv
      go_wp2_with (go_at_call 67; refine HMD.out.mono ?_; rintro e w5 ⟨rfl, B5⟩)
      go_ret
      exact ⟨rfl, HW.out.below.on B5⟩
end Go.Proofs.Ytfhkpkebiinglaa
