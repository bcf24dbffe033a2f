/-
  The walks of Cmp, the program's and the reference's.
-/
import Derived.Test.YtfhkpkebiinglaaLa
namespace Go.Proofs.Ytfhkpkebiinglaa
open Go.RowKit

theorem ok_shorter (a b : ByteArray) (ha : Ok a) (hb : Ok b) (h : a.size < b.size) : bval a < bval b := by
  apply digs_shorter (B := 256) (by omega)
  rw [ok_len a ha, ok_len b hb]; exact h
theorem bytes_high (a b : ByteArray) (i : Nat) (hi : i < a.size) (hj : i < b.size) (hl : a.size = b.size) (he : (bytesR a).drop (a.size - i) = (bytesR b).drop (a.size - i)) :
    (a[i].toNat < b[i].toNat → bval a < bval b) ∧ (a[i].toNat = b[i].toNat → (bytesR a).drop (a.size - (i + 1)) = (bytesR b).drop (a.size - (i + 1))) := by
  obtain ⟨m, hm⟩ : ∃ m, m = a.size - 1 - i := ⟨_, rfl⟩
  have h1 : m < (bytesR a).length := by rw [bytesR_len]; omega
  have h2 : m < (bytesR b).length := by rw [bytesR_len]; omega
  have e1 : (bytesR a)[m] = a[i].toNat := bytesR_get a m h1 i (by omega) hi
  have e2 : (bytesR b)[m] = b[i].toNat := bytesR_get b m h2 i (by omega) hj
  have em : a.size - i = m + 1 := by omega
  have em2 : a.size - (i + 1) = m := by omega
  rw [em] at he
  refine ⟨fun h => ?_, fun h => ?_⟩
  · exact cmp_high (bytesR a) (bytesR b) (bytesR_lt a) m h1 h2 he (by rw [e1, e2]; exact h)
  · rw [em2, List.drop_eq_getElem_cons h1, List.drop_eq_getElem_cons h2, he, e1, e2, h]

set_option maxRecDepth 20000 in
theorem rCmp_any (a b : ByteArray) (ha : Ok a) (hb : Ok b) (w : World) :
    Calls Try.prog 31 #[.string a, .string b] w fun e w' => e = .returned (.int .i64 (cmpN (bval a) (bval b))) ∧ Below w.heap.size w w' := by
  have ha1 := ha.1
  have hb1 := hb.1
  by_cases hl : a.size = b.size
  · have H := Lib.hid fun i hi hj he => bytes_high a b i hi hj hl he
    have H2 := Lib.hid fun i hi hj he => bytes_high b a i hi hj hl.symm he
    have HL := Lib.hid hl
    have hne : (((a.size : Nat) : Int) != ((b.size : Nat) : Int)) = false := by simp [hl]
    clear hl ha hb
    go_enter Try.func31, Try.ntmps31
    go_wp2
    go_loopw [5] (fun vi wr => ∃ i, i ≤ a.size ∧ vi = .int .i64 ((i : Nat) : Int) ∧ Hid ((bytesR a).drop (a.size - i) = (bytesR b).drop (a.size - i)) ∧ Hid (Below w.heap.size w wr)) (fun vi _ => a.size - (intOf vi).toNat)
    case atStart =>
      refine ⟨0, Nat.zero_le _, rfl, ?_, Below.refl _ _⟩
      show _ = _
      rw [List.drop_of_length_le (by rw [bytesR_len]; omega), List.drop_of_length_le (by rw [bytesR_len]; have := HL.out; omega)]
    case round =>
      obtain ⟨i, hi, rfl, HE, HBW⟩ := hrel
      by_cases hlt : i < a.size
      · have hlb : i < b.size := by have := HL.out; omega
        have h1 := H.out i hlt hlb HE.out
        have h2 := H2.out i hlb hlt (by rw [← HL.out]; exact HE.out.symm)
        have H1 := Lib.hid h1.1
        have H3 := Lib.hid h2.1
        have H4 := Lib.hid h1.2
        clear h1 h2
        by_cases hxy : a[i].toNat < b[i].toNat
        · have HR : Hid (cmpN (bval a) (bval b) = -1) := cmpN_lt (H1.out hxy)
          go_wp2
          go_region
          go_wp2
          go_ret
          exact ⟨by rw [HR.out]; rfl, HBW.out.drew⟩
        · by_cases hyx : b[i].toNat < a[i].toNat
          · have HR : Hid (cmpN (bval a) (bval b) = 1) := by
              show _ = _
              have := H3.out hyx
              unfold cmpN
              rw [if_neg (by omega), if_pos this]
            go_wp2
            go_region
            go_wp2
            go_region
            go_wp2
            go_ret
            exact ⟨by rw [HR.out]; rfl, HBW.out.drew.drew⟩
          · have HN := Lib.hid (H4.out (by omega))
            go_wp2
            go_region
            go_wp2
            go_region
            go_wp2
            go_roundw
            case rel => exact ⟨i + 1, by omega, by go_num, HN, HBW.out.drew.drew⟩
            case measure => simp [intOf]; omega
      · have hie : i = a.size := by omega
        have HR : Hid (cmpN (bval a) (bval b) = 0) := by
          show _ = _
          have h := HE.out
          rw [hie, Nat.sub_self, List.drop_zero, List.drop_zero] at h
          unfold bval
          rw [h]
          unfold cmpN
          rw [if_neg (by omega), if_neg (by omega)]
        go_wp2
        go_ret
        exact ⟨by rw [HR.out]; rfl, HBW.out⟩
  · have hne : (((a.size : Nat) : Int) != ((b.size : Nat) : Int)) = true := by rw [bne_iff_ne]; omega
    by_cases hlt : a.size < b.size
    · have HR : Hid (cmpN (bval a) (bval b) = -1) := cmpN_lt (ok_shorter a b ha hb hlt)
      clear ha hb
      go_enter Try.func31, Try.ntmps31
      go_wp2
      go_ret
      exact ⟨by rw [HR.out]; rfl, Below.refl _ _⟩
    · have HR : Hid (cmpN (bval a) (bval b) = 1) := by
        show _ = _
        have := ok_shorter b a hb ha (by omega)
        unfold cmpN
        rw [if_neg (by omega), if_pos this]
      clear ha hb
      go_enter Try.func31, Try.ntmps31
      go_wp2
      go_ret
      exact ⟨by rw [HR.out]; rfl, Below.refl _ _⟩

theorem compare_cmp : ∀ (l m : List UInt8), l.length = m.length → Lib.compareBytes l m = cmpN (dval 256 (l.reverse.map UInt8.toNat)) (dval 256 (m.reverse.map UInt8.toNat)) := by
  intro l
  induction l with
  | nil =>
    intro m h
    have : m = [] := List.eq_nil_of_length_eq_zero (by simpa using h.symm)
    subst this
    rfl
  | cons x l ih =>
    intro m h
    cases m with
    | nil => simp at h
    | cons y m =>
      have hl : l.length = m.length := by simpa using h
      have ihm := ih m hl
      have lt : ∀ (k : List UInt8), dval 256 (k.reverse.map UInt8.toNat) < 256 ^ k.length := by
        intro k
        have := dval_lt 256 (k.reverse.map UInt8.toNat) (by
          intro d hd
          simp only [List.mem_map] at hd
          obtain ⟨u, _, rfl⟩ := hd
          exact u.toNat_lt)
        simpa using this
      have h1 := lt l
      have h2 := lt m
      rw [hl] at h1
      simp only [List.reverse_cons, List.map_append, List.map_cons, List.map_nil, dval_append, List.length_map, List.length_reverse, dval, Nat.mul_zero, Nat.add_zero]
      rw [hl]
      simp only [Lib.compareBytes]
      rw [ihm]
      generalize dval 256 (l.reverse.map UInt8.toNat) = L at *
      generalize dval 256 (m.reverse.map UInt8.toNat) = M at *
      generalize 256 ^ m.length = P at *
      have hx : ∀ u v : UInt8, u < v ↔ u.toNat < v.toNat := fun u v => UInt8.lt_iff_toNat_lt
      by_cases a1 : x < y
      · rw [if_pos a1]
        have := (hx _ _).1 a1
        have h3 : P * (x.toNat + 1) ≤ P * y.toNat := Nat.mul_le_mul_left _ this
        rw [Nat.mul_add] at h3
        rw [cmpN_lt (by omega)]
      · rw [if_neg a1]
        by_cases a2 : y < x
        · rw [if_pos a2]
          have := (hx _ _).1 a2
          have h3 : P * (y.toNat + 1) ≤ P * x.toNat := Nat.mul_le_mul_left _ this
          rw [Nat.mul_add] at h3
          unfold cmpN
          rw [if_neg (by omega), if_pos (by omega)]
        · rw [if_neg a2]
          have e : x.toNat = y.toNat := by
            have h3 := mt (hx x y).2 a1
            have h4 := mt (hx y x).2 a2
            omega
          rw [e]
          unfold cmpN
          by_cases c1 : L < M
          · rw [if_pos c1, if_pos (show L + P * y.toNat < M + P * y.toNat by omega)]
          · rw [if_neg c1, if_neg (show ¬ L + P * y.toNat < M + P * y.toNat by omega)]
            by_cases c2 : M < L
            · rw [if_pos c2, if_pos (show M + P * y.toNat < L + P * y.toNat by omega)]
            · rw [if_neg c2, if_neg (show ¬ M + P * y.toNat < L + P * y.toNat by omega)]

set_option maxRecDepth 20000 in
theorem Cmp_any (a b : ByteArray) (w : World) (ha : a.size ≤ maxLen) (hb : b.size ≤ maxLen) :
    Calls Try.prog 30 #[.string a, .string b] w fun e w' => e = .returned (if Ok a ∧ Ok b then .tuple #[.int .i64 (cmpN (bval a) (bval b)), .int .i64 0] else .tuple #[.int .i64 0, .int .i64 2]) ∧ Below w.heap.size w w' := by
  have HM := Lib.hid fun t ht => may_two a b w ha hb t ht
  by_cases hok : Ok a ∧ Ok b
  · have HM2 := Lib.hid (HM.out true (by simp [hok]))
    rw [if_pos hok]
    have ha1 := hok.1.1
    have hb1 := hok.2.1
    by_cases hl : a.size = b.size
    · have HR : Hid (Lib.compareBytes a.data.toList b.data.toList = cmpN (bval a) (bval b)) := compare_cmp _ _ (by rw [Array.length_toList, Array.length_toList]; exact hl)
      have hne : (((a.size : Nat) : Int) != ((b.size : Nat) : Int)) = false := by simp [hl]
      clear hl hok ha hb HM
      go_enter Try.func30, Try.ntmps30
      go_wp2_with (first | (go_at_call 58; refine HM2.out.mono ?_; rintro e w1 ⟨rfl, B1⟩) | (go_at_call 73; refine (Try.strings_Compare _ _ _).mono ?_; rintro e w2 ⟨rfl, hw⟩; have hw2 := hw.symm; subst hw2; rw [HR.out]))
      go_ret2
      exact ⟨rfl, B1⟩
    · have hne : (((a.size : Nat) : Int) != ((b.size : Nat) : Int)) = true := by rw [bne_iff_ne]; omega
      by_cases hlt : a.size < b.size
      · have HR : Hid (cmpN (bval a) (bval b) = -1) := cmpN_lt (ok_shorter a b hok.1 hok.2 hlt)
        clear hok ha hb HM
        go_enter Try.func30, Try.ntmps30
        go_wp2_with (first | (go_at_call 58; refine HM2.out.mono ?_; rintro e w1 ⟨rfl, B1⟩))
        go_ret2
        exact ⟨by rw [HR.out]; rfl, B1⟩
      · have HR : Hid (cmpN (bval a) (bval b) = 1) := by
          show _ = _
          have := ok_shorter b a hok.2 hok.1 (by omega)
          unfold cmpN
          rw [if_neg (by omega), if_pos this]
        clear hok ha hb HM
        go_enter Try.func30, Try.ntmps30
        go_wp2_with (first | (go_at_call 58; refine HM2.out.mono ?_; rintro e w1 ⟨rfl, B1⟩))
        go_ret2
        exact ⟨by rw [HR.out]; rfl, B1⟩
  · have HM2 := Lib.hid (HM.out false (by simp only [hok, decide_false]))
    rw [if_neg hok]
    clear hok HM
    go_enter Try.func30, Try.ntmps30
    go_wp2_with (go_at_call 58; refine HM2.out.mono ?_; rintro e w1 ⟨rfl, B1⟩)
    go_ret2
    exact ⟨rfl, B1⟩
end Go.Proofs.Ytfhkpkebiinglaa
