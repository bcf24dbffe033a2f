/-
  The walks of Gcd and Root, the reference's and the program's, over what div is known to do.
-/
import Derived.Test.YtfhkpkebiinglaaDwr
import Derived.Test.YtfhkpkebiinglaaNum
import Derived.Test.YtfhkpkebiinglaaPowx
namespace Go.Proofs.Ytfhkpkebiinglaa
open Go.RowKit

set_option maxRecDepth 20000 in
theorem rDiv_any (a b : ByteArray) (ha : Ok a) (hb : Ok b) (hs : b.size = 0 ∨ a.size ≤ 1200 ∧ b.size ≤ 1200) (w : World) :
    Calls Try.prog 25 #[.string a, .string b] w fun e w' => e = .returned (divN (bval a) (bval b)) ∧ Below w.heap.size w w' := by
  have h0 := ok_zero b hb
  by_cases hb0 : b.size = 0
  · have hR : Hid (divN (bval a) (bval b) = .tuple #[.string ⟨#[]⟩, .string ⟨#[]⟩, .int .i64 21]) := if_pos (h0.2 hb0)
    have hz : b.toList.isEmpty = decide (b.size = 0) := isEmpty_size b
    have hz2 : b.toList.isEmpty = true := by rw [hz]; simp [hb0]
    have hz3 : b.toList = [] := (toList_nil b).2 hb0
    clear hz h0 ha hb hs
    go_enter Try.func25, Try.ntmps25
    go_wp2
    go_ret3
    exact ⟨by rw [hR.out]; rfl, Below.refl _ _⟩
  · have e : divN (bval a) (bval b) = .tuple #[.string (enc (bval a / bval b)), .string (enc (bval a % bval b)), .int .i64 0] := if_neg fun e => hb0 (h0.1 e)
    rw [e]
    obtain ⟨h1, h2⟩ : a.size ≤ 1200 ∧ b.size ≤ 1200 := by omega
    exact rDiv_big a b ha hb hb0 h1 h2 w
theorem encNe (y : Nat) (hy : y ≠ 0) : (enc y).toList.isEmpty = false ∧ ¬ (enc y).toList = [] := by
  have hs : (enc y).size ≠ 0 := by
    rw [enc_size]
    intro e
    have := (digs_len (B := 256) (by omega) y 0).1 (by omega)
    omega
  exact ⟨by rw [isEmpty_size]; simp [hs], fun h => hs ((toList_nil _).1 h)⟩
set_option maxRecDepth 20000 in
theorem rGcd_enc (x y K : Nat) (hK : K ≤ 1200) (hx : x < 256 ^ K) (hy : y < 256 ^ K) (w : World) :
    Calls Try.prog 27 #[.string (enc x), .string (enc y)] w fun e w' => e = .returned (.string (enc (Nat.gcd x y))) ∧ Below w.heap.size w w' := by
  have H0 : Hid (x < 256 ^ K ∧ y < 256 ^ K ∧ Nat.gcd x y = Nat.gcd x y) := ⟨hx, hy, rfl⟩
  have HB0 : Hid (Below w.heap.size w w) := Below.refl _ _
  clear hx hy
  go_enter Try.func27, Try.ntmps27
  go_wp2
  go_loopg [0, 1] y (fun g va vb wx => ∃ (u v : Nat), v = g ∧ va = .string (enc u) ∧ vb = .string (enc v) ∧ Hid (u < 256 ^ K ∧ v < 256 ^ K ∧ Nat.gcd u v = Nat.gcd x y) ∧ Hid (Below w.heap.size w wx))
  case atStart => exact ⟨x, y, rfl, rfl, rfl, ⟨H0.out.1, H0.out.2.1, rfl⟩, HB0⟩
  case round =>
    obtain ⟨u, v, rfl, rfl, rfl, HG, HB⟩ := hrel
    clear H0 HB0
    by_cases hv : v = 0
    · subst hv
      have HR : Hid (Nat.gcd x y = u) := by have := HG.out.2.2; rw [Nat.gcd_zero_right] at this; exact this.symm
      rw [enc_zero]
      go_wp2
      go_ret
      exact ⟨by rw [HR.out]; rfl, HB.out⟩
    · obtain ⟨hz2, hz3⟩ := encNe v hv
      have ou := enc_ok HG.out.1 (by omega)
      have ov := enc_ok HG.out.2.1 (by omega)
      have HD := Lib.hid fun W => rDiv_any (enc u) (enc v) ou ov (.inr ⟨Nat.le_trans (enc_len HG.out.1) hK, Nat.le_trans (enc_len HG.out.2.1) hK⟩) W
      have e : divN u v = .tuple #[.string (enc (u / v)), .string (enc (u % v)), .int .i64 0] := if_neg hv
      rw [bval_enc, bval_enc, e] at HD
      have hml : u % v < v := Nat.mod_lt _ (Nat.pos_of_ne_zero hv)
      have HN : Hid (v < 256 ^ K ∧ u % v < 256 ^ K ∧ Nat.gcd v (u % v) = Nat.gcd x y) := ⟨HG.out.2.1, Nat.lt_trans hml HG.out.2.1, by rw [← gcd_step]; exact HG.out.2.2⟩
      clear ou ov e hv
      go_wp2_with (first | (go_at_call 25; with_reducible refine (HD.out _).mono ?_; rintro e w2 ⟨rfl, B2⟩))
      go_roundg (u % v)
      case measure => exact hml
      case rel => exact ⟨v, u % v, rfl, rfl, rfl, HN, HB.out.on B2⟩
theorem rGcd_any (a b : ByteArray) (ha : Ok a) (hb : Ok b) (has : a.size ≤ 1200) (hbs : b.size ≤ 1200) (w : World) :
    Calls Try.prog 27 #[.string a, .string b] w fun e w' => e = .returned (.string (enc (Nat.gcd (bval a) (bval b)))) ∧ Below w.heap.size w w' := by
  obtain ⟨K, hK⟩ : ∃ K, K = 1200 := ⟨_, rfl⟩
  have h1 : bval a < 256 ^ K := Nat.lt_of_lt_of_le (bval_lt a) (Nat.pow_le_pow_right (by omega) (by omega))
  have h2 : bval b < 256 ^ K := Nat.lt_of_lt_of_le (bval_lt b) (Nat.pow_le_pow_right (by omega) (by omega))
  have := rGcd_enc (bval a) (bval b) K (by omega) h1 h2 w
  rwa [enc_bval a ha, enc_bval b hb] at this

/-- Where the program's Gcd stands. -/
structure GcdAt (x y : Nat) (X Y : List Nat) : Prop where
  xl : ∀ d ∈ X, d < 4294967296
  yl : ∀ d ∈ Y, d < 4294967296
  xn : X.length ≤ 4096
  yn : Y.length ≤ 4096
  g : Nat.gcd (dval 4294967296 X) (dval 4294967296 Y) = Nat.gcd x y
  nz : Y ≠ [] → dval 4294967296 Y ≠ 0
theorem GcdAt.next {x y : Nat} {X Y : List Nat} (h : GcdAt x y X Y) (hY : Y ≠ []) : GcdAt x y Y (digs 4294967296 (dval 4294967296 X % dval 4294967296 Y)) ∧ dval 4294967296 X % dval 4294967296 Y < dval 4294967296 Y := by
  have hn := h.nz hY
  have hm : dval 4294967296 X % dval 4294967296 Y < dval 4294967296 Y := Nat.mod_lt _ (Nat.pos_of_ne_zero hn)
  refine ⟨⟨h.yl, digs_lt (by omega) _, h.yn, ?_, ?_, ?_⟩, hm⟩
  · exact Nat.le_trans ((digs_len (by omega) _ _).2 (Nat.lt_trans hm (dval_lt _ Y h.yl))) h.yn
  · rw [dval_digs (by omega), ← gcd_step]; exact h.g
  · intro h1 h2
    rw [dval_digs (by omega)] at h2
    rw [h2, digs_zero] at h1
    exact h1 rfl
theorem open_row2 (s : ByteArray) (hs : Ok s) (w : World) :
    Calls Try.prog 60 #[.string s] w fun e w' => ∃ ao cap L, e = .returned (.slice ao L.length cap) ∧ Hid (RowAt w' .u32 ao cap L) ∧ Hid (dval 4294967296 L = bval s) ∧ Hid (∀ d ∈ L, d < 4294967296) ∧ L.length ≤ 4096 ∧ Hid (L ≠ [] → dval 4294967296 L ≠ 0) ∧ Hid (L.length = (s.size + 3) / 4) ∧ Below w.heap.size w w' := by
  have h16 := hs.1
  refine (open_any s (by omega) w).mono ?_
  rintro e w' ⟨v, L, rfl, o, h1, h2, h3, h4⟩
  obtain ⟨ao, cap, rfl, r⟩ := own_slice o
  refine ⟨ao, cap, L, rfl, r, h1, h2, by omega, ?_, h3, h4⟩
  intro hL he
  rw [h1] at he
  have := (ok_zero s hs).1 he
  apply hL
  apply List.eq_nil_of_length_eq_zero
  omega
theorem gcd_fit {a b : ByteArray} (ha : Ok a) (hb : Ok b) : Sm (Nat.gcd (bval a) (bval b)) := by
  rcases Nat.eq_zero_or_pos (bval a) with h0 | h0
  · rw [h0, Nat.gcd_zero_left]; exact Sm.of_ok hb
  · exact (Sm.of_ok ha).le (Nat.le_of_dvd h0 (Nat.gcd_dvd_left _ _))
set_option maxRecDepth 20000 in
set_option maxHeartbeats 1000000 in
theorem Gcd_of (HDV : ∀ y, y ≠ 0 → DivAtY y) (a b : ByteArray) (w : World) (ha : a.size ≤ maxLen) (hb : b.size ≤ maxLen) :
    Calls Try.prog 26 #[.string a, .string b] w fun e w' => e = .returned (if Ok a ∧ Ok b then .tuple #[.string (enc (Nat.gcd (bval a) (bval b))), .int .i64 0] else .tuple #[.string ⟨#[]⟩, .int .i64 2]) ∧ Below w.heap.size w w' := by
  have HM := Lib.hid fun t ht => may_two a b w ha hb t ht
  by_cases hok : Ok a ∧ Ok b
  · have HM2 := Lib.hid (HM.out true (by simp [hok]))
    rw [if_pos hok]
    have HA := Lib.hid fun w => open_row2 a hok.1 w
    have HB := Lib.hid fun w => open_row2 b hok.2 w
    have HF := Lib.hid (gcd_fit hok.1 hok.2).endN
    have HDV2 := Lib.hid HDV
    clear hok ha hb HM HDV
    generalize hx : bval a = x at *
    generalize hy : bval b = y at *
    clear hx hy
    go_enter Try.func26, Try.ntmps26
    go_wp2_with (first | (go_at_call 58; refine HM2.out.mono ?_; rintro e w1 ⟨rfl, B1⟩) | (go_at_call 60; with_reducible refine (HA.out _).mono ?_; rintro e w2 ⟨aa, ca, LA, rfl, RA, VA, SA, NA, ZA, EA, B2⟩) | (go_at_call 60; with_reducible refine (HB.out _).mono ?_; rintro e w3 ⟨ab, cb, LB, rfl, RB, VB, SB, NB, ZB, EB, B3⟩))
    have HG0 : Hid (GcdAt x y LA LB) := ⟨SA.out, SB.out, NA, NB, by rw [VA.out, VB.out], ZB.out⟩
    have RA0 := Lib.hid (RA.out.below B3 (Nat.le_refl _))
    have HB0 : Hid (Below w.heap.size w w3) := (B1.on B2).on B3
    clear B1 B2 B3 NA NB
    go_loopg [6, 7] (dval 4294967296 LB) (fun g vx vy wx => ∃ (ax : Option Addr) (cx : Nat) (X : List Nat) (ay : Option Addr) (cy : Nat) (Y : List Nat), dval 4294967296 Y = g ∧ vx = .slice ax X.length cx ∧ vy = .slice ay Y.length cy ∧ Hid (RowAt wx .u32 ax cx X) ∧ Hid (RowAt wx .u32 ay cy Y) ∧ Hid (GcdAt x y X Y) ∧ Hid (Below w.heap.size w wx))
    case atStart => exact ⟨aa, ca, LA, ab, cb, LB, rfl, rfl, rfl, RA0, RB, HG0, HB0⟩
    case round =>
      obtain ⟨ax, cx, X, ay, cy, Y, hgk, rfl, rfl, RX, RY, HG, HBW⟩ := hrel
      clear HG0 RA0 HB0 RA RB
      by_cases hY : Y = []
      · subst hY
        have hg := HG.out.g
        simp only [dval, Nat.gcd_zero_right] at hg
        have hxn := HG.out.xn
        have HS := Lib.hid (shut_end ax cx X HG.out.xl (by omega) _ RX.out)
        rw [hg, HF.out] at HS
        clear hg hgk
        go_wp2_with (first | (go_at_call 61; with_reducible refine HS.out.mono ?_; rintro e w5 ⟨rfl, B5⟩))
        go_ret2
        exact ⟨rfl, HBW.out.on B5⟩
      · obtain ⟨hn1, hn2⟩ := HG.out.next hY
        have HN1 := Lib.hid hn1
        have HU := Lib.hid (HDV2.out _ (HG.out.nz hY) ax ay cx cy X Y HG.out.xl HG.out.yl HG.out.xn HG.out.yn rfl _ RX.out RY.out)
        have hpos : (0 : Int) < (Y.length : Int) := by
          have := List.length_pos_iff.2 hY
          omega
        have HLT : Hid (dval 4294967296 X % dval 4294967296 Y < gk) := by rw [← hgk]; exact hn2
        have HV : Hid (dval 4294967296 (digs 4294967296 (dval 4294967296 X % dval 4294967296 Y)) = dval 4294967296 X % dval 4294967296 Y) := dval_digs (by omega) _
        clear hn1 hn2 hgk hY
        go_wp2_with (first | (go_at_call 65; (refine HU.out.mono ?_); rintro e w4 ⟨aq, cq, ar, cr, rfl, rq, rr, B4⟩; have RR := Lib.hid rr; have RY2 := Lib.hid (RY.out.below B4 (Nat.le_refl _)); clear rq rr))
        go_roundg (dval 4294967296 X % dval 4294967296 Y)
        case measure => exact HLT.out
        case rel => exact ⟨ay, cy, Y, ar, cr, _, HV.out, rfl, rfl, RY2, RR, HN1, HBW.out.on B4⟩
  · have HM2 := Lib.hid (HM.out false (by simp only [hok, decide_false]))
    rw [if_neg hok]
    clear hok HM
    go_enter Try.func26, Try.ntmps26
    go_wp2_with (go_at_call 58; refine HM2.out.mono ?_; rintro e w1 ⟨rfl, B1⟩)
    go_ret2
    exact ⟨rfl, B1⟩

theorem root_pow {x n : Nat} (h : blen x ≤ n) : x < 2 ^ n := (blen_le x n).1 h
set_option maxRecDepth 20000 in
set_option maxHeartbeats 1000000 in
theorem rRoot_any (a : ByteArray) (ha : Ok a) (has : a.size ≤ 1200) (w : World) :
    Calls Try.prog 39 #[.string a] w fun e w' => ∃ r, IsRt (bval a) r ∧ e = .returned (.tuple #[.string (enc r), .string (enc (bval a - r * r))]) ∧ Below w.heap.size w w' := by
  have HL := Lib.hid fun W => rLen_any a (by omega) W
  have ea : a = enc (bval a) := (enc_bval a ha).symm
  have HEA := Lib.hid ea
  obtain ⟨L, hL⟩ : ∃ L, L = blen (bval a) := ⟨_, rfl⟩
  rw [← hL] at HL
  have hLb : L ≤ 8 * a.size := by
    rw [hL]
    refine (blen_le _ _).2 ?_
    rw [two_pow_8]; exact bval_lt a
  have hLt : bval a < 2 ^ L := root_pow (by omega)
  have HB0 : Hid (BitAt (bval a) (L / 2 + 1) 0) := BitAt.start (Nat.lt_of_lt_of_le hLt (by rw [← Nat.pow_add]; exact Nat.pow_le_pow_right (by omega) (by omega)))
  have HX : Hid (bval a < 256 ^ a.size) := bval_lt a
  have HOK := Lib.hid ha
  obtain ⟨K, hK⟩ : ∃ K, K = 1201 := ⟨_, rfl⟩
  have HKK : Hid (256 ^ a.size ≤ 256 ^ K) := Nat.pow_le_pow_right (by omega) (by omega)
  have HW0 : Hid (Below w.heap.size w w) := Below.refl _ _
  generalize bval a = x at *
  obtain ⟨m0, hm0⟩ : ∃ m0, m0 = L / 2 := ⟨_, rfl⟩
  rw [← hm0] at HB0
  have hLq : (L : Int) / 2 = (m0 : Int) := by omega
  have hm4 : m0 ≤ 4 * a.size := by omega
  have HK := Lib.hid hK
  clear ea hL hLt ha hm0 hK hLb
  go_enter Try.func39, Try.ntmps39
  go_wp2_with (first | (go_at_call 52; with_reducible refine (HL.out _).mono ?_; rintro e w' ⟨rfl, rfl⟩))
  go_loopg [4, 5] (m0 + 1) (fun g vr vi wx => ∃ (j r : Nat), j = g ∧ j ≤ m0 + 1 ∧ vi = .int .i64 ((j : Int) - 1) ∧ vr = .string (enc r) ∧ Hid (BitAt x j r) ∧ Hid (Below w.heap.size w wx))
  case atStart => exact ⟨m0 + 1, 0, rfl, Nat.le_refl _, by congr 1; omega, rfl, HB0, HW0⟩
  case round =>
    obtain ⟨j, r, rfl, hj, rfl, rfl, HB, HW⟩ := hrel
    clear HB0 HW0
    have hrx : r < 256 ^ a.size := by
      have h1 := HB.out.1
      have h2 : r ≤ r * r := by
        rcases Nat.eq_zero_or_pos r with h | h
        · subst h; omega
        · exact Nat.le_mul_of_pos_left _ h
      have := HX.out
      omega
    have HRX := Lib.hid hrx
    clear hrx
    by_cases hj0 : j = 0
    · subst hj0
      have hst := HB.out.stop
      have HT := Lib.hid fun W => enc_times r r (Nat.le_trans (enc_len HRX.out) (by omega)) (Nat.le_trans (enc_len HRX.out) (by omega)) W
      have HSU := Lib.hid fun W => sub_small (x := x) (z := r * r) (k := a.size) (by rw [← HEA.out]; exact HOK.out) (enc_ok (Nat.lt_of_le_of_lt hst.1 HX.out) (by omega)) hst.1 (Nat.lt_of_le_of_lt (Nat.sub_le _ _) HX.out) (by omega) W
      rw [← HEA.out] at HSU
      have HST := Lib.hid hst
      clear hst
      go_wp2_with (first | (go_at_call 64; with_reducible refine (HT.out _).mono ?_; rintro e w2 ⟨rfl, B2⟩) | (go_at_call 36; with_reducible refine (HSU.out _).mono ?_; rintro e w3 ⟨rfl, B3⟩))
      go_ret2
      exact ⟨r, HST.out, rfl, (HW.out.on B2).on B3⟩
    · obtain ⟨i, rfl⟩ : ∃ i, j = i + 1 := ⟨j - 1, by omega⟩
      have hji : ((i + 1 : Nat) : Int) - 1 = (i : Int) := by omega
      rw [hji]
      have H2 := Lib.hid fun W => two_any i (by omega) W
      have h2i : 2 ^ i < 256 ^ K := by
        have e : (256 : Nat) = 2 ^ 8 := rfl
        rw [e, ← Nat.pow_mul]
        exact Nat.pow_lt_pow_right (by omega) (by rw [HK.out]; omega)
      have hrK : r < 256 ^ K := Nat.lt_of_lt_of_le HRX.out HKK.out
      have HP := Lib.hid fun W => enc_plus r (2 ^ i) (Nat.le_trans (enc_len HRX.out) (by omega)) (Nat.le_trans (enc_len h2i) (by rw [HK.out]; omega)) W
      obtain ⟨m, hm⟩ : ∃ m, m = r + 2 ^ i := ⟨_, rfl⟩
      have hmK : m < 256 ^ (K + 1) := by
        rw [Nat.pow_succ]; omega
      have HT := Lib.hid fun W => enc_times m m (Nat.le_trans (enc_len hmK) (by rw [HK.out]; omega)) (Nat.le_trans (enc_len hmK) (by rw [HK.out]; omega)) W
      have hmm : m * m < 256 ^ ((K + 1) + (K + 1)) := by
        rw [Nat.pow_add]; exact Nat.mul_lt_mul'' hmK hmK
      have HCM := Lib.hid fun W => rCmp_any (enc (m * m)) (enc x) (enc_ok hmm (by rw [HK.out]; omega)) (by rw [← HEA.out]; exact HOK.out) W
      rw [bval_enc, bval_enc, ← HEA.out] at HCM
      rw [← hm] at HP
      have HBT := Lib.hid (hm ▸ HB.out.take : m * m ≤ x → BitAt x i m)
      have HBL := Lib.hid (hm ▸ HB.out.leave : ¬ m * m ≤ x → BitAt x i r)
      by_cases hcm : m * m ≤ x
      · have HBN := Lib.hid (HBT.out hcm)
        have hcc : cmpN (m * m) x ≤ 0 := cmp_le0 hcm
        generalize cmpN (m * m) x = cc at *
        clear hm hmK hmm hrK h2i hcm HBT HBL
        go_wp2_with (first | (go_at_call 70; with_reducible refine (H2.out _).mono ?_; rintro e w2 ⟨rfl, B2⟩) | (go_at_call 66; with_reducible refine (HP.out _).mono ?_; rintro e w3 ⟨rfl, B3⟩) | (go_at_call 64; with_reducible refine (HT.out _).mono ?_; rintro e w4 ⟨rfl, B4⟩) | (go_at_call 31; with_reducible refine (HCM.out _).mono ?_; rintro e w5 ⟨rfl, B5⟩))
        go_roundg i
        case measure => omega
        case rel => exact ⟨i, m, rfl, by omega, rfl, rfl, HBN, (((HW.out.on B2).on B3).on B4).on B5⟩
      · have HBN := Lib.hid (HBL.out hcm)
        have hcc : ¬ cmpN (m * m) x ≤ 0 := cmp_gt0 hcm
        generalize cmpN (m * m) x = cc at *
        clear hm hmK hmm hrK h2i hcm HBT HBL
        go_wp2_with (first | (go_at_call 70; with_reducible refine (H2.out _).mono ?_; rintro e w2 ⟨rfl, B2⟩) | (go_at_call 66; with_reducible refine (HP.out _).mono ?_; rintro e w3 ⟨rfl, B3⟩) | (go_at_call 64; with_reducible refine (HT.out _).mono ?_; rintro e w4 ⟨rfl, B4⟩) | (go_at_call 31; with_reducible refine (HCM.out _).mono ?_; rintro e w5 ⟨rfl, B5⟩))
        go_roundg i
        case measure => omega
        case rel => exact ⟨i, r, rfl, by omega, rfl, rfl, HBN, (((HW.out.on B2).on B3).on B4).on B5⟩

theorem IsRt.le {x r : Nat} (h : IsRt x r) : r ≤ x := by
  rcases Nat.eq_zero_or_pos r with h0 | h0
  · omega
  · exact Nat.le_trans (Nat.le_mul_of_pos_left _ h0) h.1
theorem root_zero : IsRt 0 0 := ⟨by omega, by omega⟩
/-- Where Newton's steps stand. -/
structure NewtAt (x r0 r : Nat) : Prop where
  pos : 0 < r
  above : x < (r + 1) * (r + 1)
  le : r ≤ r0
theorem NewtAt.next {x r0 r : Nat} (h : NewtAt x r0 r) (hx : 0 < x) (hn : (r + x / r) / 2 < r) : NewtAt x r0 ((r + x / r) / 2) :=
  ⟨newton_pos hx (newton_above h.pos), newton_above h.pos, by have := h.le; omega⟩
theorem NewtAt.start {x n : Nat} (h : x < 2 ^ n * 2 ^ n) : NewtAt x (2 ^ n) (2 ^ n) := ⟨Nat.two_pow_pos n, Nat.lt_of_lt_of_le h (Nat.mul_le_mul (Nat.le_succ _) (Nat.le_succ _)), Nat.le_refl _⟩

set_option maxRecDepth 20000 in
set_option maxHeartbeats 4000000 in
theorem Root_of (HDV : ∀ y, y ≠ 0 → DivAtY y) (a : ByteArray) (w : World) (ha : a.size ≤ maxLen) :
    Calls Try.prog 38 #[.string a] w fun e w' => ∃ r, (Ok a → IsRt (bval a) r) ∧ e = .returned (if Ok a then .tuple #[.string (enc r), .string (enc (bval a - r * r)), .int .i64 0] else .tuple #[.string ⟨#[]⟩, .string ⟨#[]⟩, .int .i64 2]) ∧ Below w.heap.size w w' := by
  have HM := Lib.hid fun t ht => may_one a w ha t ht
  by_cases hok : Ok a
  · have HM2 := Lib.hid (HM.out true (by simp [hok]))
    simp only [hok, if_true, true_implies]
    have HA := Lib.hid fun w => open_row2 a hok w
    have HZ := Lib.hid (ok_zero a hok)
    have HSM := Lib.hid (Sm.of_ok hok)
    have ha1 := hok.1
    have HDV2 := Lib.hid HDV
    have HBL : Hid (blen (bval a) ≤ 8 * a.size) := by
      refine (blen_le _ _).2 ?_
      rw [two_pow_8]; exact bval_lt a
    clear hok ha HM HDV
    generalize bval a = x at *
    go_enter Try.func38, Try.ntmps38
    go_upto_if 18 with (first | (go_at_call 58; refine HM2.out.mono ?_; rintro e w1 ⟨rfl, B1⟩) | (go_at_call 60; with_reducible refine (HA.out _).mono ?_; rintro e w2 ⟨aa, ca, LA, rfl, RA, VA, SA, NA, ZA, EA, B2⟩))
    have BB := Lib.hid (B1.on B2)
    clear B1 B2
    by_cases ha0 : a.size = 0
    · have hx0 : x = 0 := HZ.out.2 ha0
      subst hx0
      have hl : LA.length = 0 := by rw [EA.out, ha0]
      have hlz : ((LA.length : Int) == 0) = true := by rw [hl]; rfl
      have R0 : Hid (IsRt 0 0) := root_zero
      clear ha0 hl
      go_wp2
      go_ret3
      exact ⟨0, R0.out, rfl, BB.out⟩
    · have hl : LA.length ≠ 0 := by rw [EA.out]; omega
      have hlz : ((LA.length : Int) == 0) = false := by rw [beq_eq_false_iff_ne]; omega
      have hx0 : 0 < x := Nat.pos_of_ne_zero fun e => ha0 (HZ.out.1 e)
      obtain ⟨n, hn⟩ : ∃ n, n = (blen x + 1) / 2 := ⟨_, rfl⟩
      have hnq : ((blen x : Int) + 1) / 2 = (n : Int) := by omega
      have hnb : n ≤ 65536 := by have := HBL.out; omega
      have hxn : x < 2 ^ n * 2 ^ n := Nat.lt_of_lt_of_le (root_pow (Nat.le_refl _)) (by rw [← Nat.pow_add]; exact Nat.pow_le_pow_right (by omega) (by omega))
      have HN0 := Lib.hid (NewtAt.start hxn)
      have HLEN := Lib.hid fun W r => len_any aa LA.length ca LA rfl SA.out (by omega) W r
      rw [VA.out] at HLEN
      have hbx : blen x ≤ 131072 := by have := HBL.out; omega
      have RL : Hid (RowAt (w2.alloc (.cells #[.int .u32 1] 91)) .u32 (some ⟨w2.heap.size, 0, none⟩) 1 [1]) := limb1_row 1 w2
      have hlf := left_any (some ⟨w2.heap.size, 0, none⟩) 1 [1] n (by intro d hd; rw [List.mem_singleton.1 hd]; omega) (by simp) (by omega) _ RL.out
      rw [show dval 4294967296 [1] * 2 ^ n = 2 ^ n by simp [dval]] at hlf
      have HLF := Lib.hid hlf
      have RA2 := Lib.hid (RA.out.below (two_below w2 (.cells #[.int .u32 1] 91)) (Nat.le_refl _))
      have BL := Lib.hid (two_below w2 (.cells #[.int .u32 1] 91))
      have hdr : ∀ z, z ≤ 2 ^ n → (digs 4294967296 z).length ≤ 3000 := fun z hz => by
        have e : (4294967296 : Nat) = 2 ^ 32 := rfl
        have h1 : z < 4294967296 ^ (n / 32 + 1) := by
          refine Nat.lt_of_le_of_lt hz ?_
          rw [e, ← Nat.pow_mul]
          exact Nat.pow_lt_pow_right (by omega) (by omega)
        have := (digs_len (B := 4294967296) (by omega) z (n / 32 + 1)).2 h1
        omega
      have HDR := Lib.hid hdr
      have hdx : ∀ z, z ≤ x → (digs 4294967296 z).length ≤ 4096 := fun z hz => by
        have h1 := dval_lt 4294967296 LA SA.out
        rw [VA.out] at h1
        exact Nat.le_trans ((digs_len (by omega) z LA.length).2 (by omega)) NA
      have HDX := Lib.hid hdx
      clear hn hxn hlf hdr hdx ha0 hl
      generalize 2 ^ n = r0 at *
      go_wp2_with (first | (go_at_call 77; with_reducible refine (HLEN.out _ RA2.out).mono ?_; rintro e w' ⟨rfl, rfl⟩) | (go_at_call 69; (refine HLF.out.mono ?_); rintro e w3 ⟨v3, rfl, ov3, B3⟩; obtain ⟨ar0, cr0, rfl, rr0⟩ := own_slice ov3; have RR0 := Lib.hid rr0; have HB0 : Hid (Below w2.heap.size w2 w3) := BL.out.trans (B3.mono (by simp)); clear ov3 rr0 B3))
      go_loopg [6] r0 (fun g v wx => ∃ (r : Nat) (ar : Option Addr) (cr : Nat), r = g ∧ v = .slice ar (digs 4294967296 r).length cr ∧ Hid (RowAt wx .u32 ar cr (digs 4294967296 r)) ∧ Hid (NewtAt x r0 r) ∧ Hid (Below w2.heap.size w2 wx))
      case atStart => exact ⟨r0, ar0, cr0, rfl, rfl, RR0, HN0, HB0⟩
      case round =>
        obtain ⟨r, ar, cr, rfl, rfl, RR, HN, HBW⟩ := hrel
        clear RR0 HN0 HB0 RL HLF
        have hrl := HDR.out r HN.out.le
        have hlr := digs_lt (B := 4294967296) (by omega) r
        have hu := HDV2.out r (Nat.ne_of_gt HN.out.pos) aa ar ca cr LA (digs 4294967296 r) SA.out hlr NA (by omega) (dval_digs (by omega) r) _ (RA.out.below HBW.out (Nat.le_refl _)) RR.out
        rw [VA.out, dval_digs (by omega)] at hu
        have HU := Lib.hid hu
        have hqx : x / r ≤ x := Nat.div_le_self _ _
        have hql := HDX.out _ hqx
        have hlq := digs_lt (B := 4294967296) (by omega) (x / r)
        have hadd := fun aq cq W r1 r2 => add_any ar aq cr cq (digs 4294967296 r) (digs 4294967296 (x / r)) hlr hlq (by omega) (by omega) W r1 r2
        rw [dval_digs (by omega), dval_digs (by omega)] at hadd
        have HADD := Lib.hid hadd
        have hsl : (digs 4294967296 (r + x / r)).length ≤ 5000 := by
          have h1 := (digs_len (B := 4294967296) (by omega) r 4999).1 (by omega)
          have h2 := (digs_len (B := 4294967296) (by omega) (x / r) 4999).1 (by omega)
          refine (digs_len (by omega) _ _).2 ?_
          obtain ⟨e, he⟩ : ∃ e, e = 4999 := ⟨_, rfl⟩
          have h5 : (5000 : Nat) = e + 1 := by omega
          rw [h5, Nat.pow_succ]
          rw [← he] at h1 h2
          omega
        have hls := digs_lt (B := 4294967296) (by omega) (r + x / r)
        have hrt := fun asu cs W r1 => right_any asu _ cs (digs 4294967296 (r + x / r)) rfl 1 hls (by omega) (by omega) W r1
        rw [dval_digs (by omega), Nat.pow_one] at hrt
        have HRT := Lib.hid hrt
        have hcm := fun an cn W r1 r2 => cmp_any an ar cn cr (digs 4294967296 ((r + x / r) / 2)) (digs 4294967296 r) (digs_lt (by omega) _) hlr W r1 r2
        rw [dval_digs (by omega), dval_digs (by omega)] at hcm
        have HCM := Lib.hid hcm
        have HNN := Lib.hid (HN.out.next hx0)
        have HNS := Lib.hid (newton_stop HN.out.pos HN.out.above)
        clear hu hadd hrt hcm hrl hlr hqx hql hlq hsl hls
        generalize (r + x / r) / 2 = nx at *
        by_cases hnr : nx < r
        · have hc : ¬ 0 ≤ cmpN nx r := by rw [cmpN_lt hnr]; omega
          have HNX := Lib.hid (HNN.out hnr)
          generalize cmpN nx r = cc at *
          go_wp2_with (first | (go_at_call 65; (refine HU.out.mono ?_); rintro e w4 ⟨aq, cq, ar2, cr2, rfl, rq, rr2, B4⟩; have RQ := Lib.hid rq; have RR4 := Lib.hid (RR.out.below B4 (Nat.le_refl _)); clear rq rr2) | (go_at_call 74; (refine (HADD.out aq cq w4 RR4.out RQ.out).mono ?_); rintro e w5 ⟨v5, rfl, ov5, B5⟩; obtain ⟨asu, cs, rfl, rs⟩ := own_slice ov5; have RS := Lib.hid rs; have RR5 := Lib.hid (RR4.out.below B5 (Nat.le_refl _)); clear rs ov5) | (go_at_call 68; (refine (HRT.out asu cs w5 RS.out).mono ?_); rintro e w6 ⟨v6, rfl, ov6, B6⟩; obtain ⟨an, cn, rfl, rn⟩ := own_slice ov6; have RN := Lib.hid rn; have RR6 := Lib.hid (RR5.out.below B6 (Nat.le_refl _)); clear rn ov6) | (go_at_call 75; (refine (HCM.out an cn w6 RN.out RR6.out).mono ?_); rintro e w7 ⟨rfl, B7⟩; have RN7 := Lib.hid (RN.out.below B7 (Nat.le_refl _)); have RR7 := Lib.hid (RR6.out.below B7 (Nat.le_refl _))))
          go_roundg nx
          case measure => exact hnr
          case rel => exact ⟨nx, an, cn, rfl, rfl, RN7, HNX, by repeat (first | exact HBW.out | assumption | refine Below.on ?_ (by assumption))⟩
        · have hc : 0 ≤ cmpN nx r := cmpN_ge (by omega)
          have HST := Lib.hid (HNS.out (by omega))
          generalize cmpN nx r = cc at *
          have hlr := digs_lt (B := 4294967296) (by omega) r
          have hrx := HST.out.le
          have hrl := HDX.out r hrx
          have HS1 := Lib.hid fun W r1 => row_shut (N := r) (w' := W) (ap := ar) (cp := cr) r1 (by omega)
          rw [(HSM.out.le hrx).endN] at HS1
          have hml := mul_any ar ar cr cr (digs 4294967296 r) (digs 4294967296 r) hlr hlr (by omega)
          rw [dval_digs (by omega)] at hml
          have HML := Lib.hid hml
          have hsb := fun am cm W r1 r2 => sub_any aa am ca cm LA (digs 4294967296 (r * r)) SA.out (digs_lt (by omega) _) (by omega) (by rw [VA.out, dval_digs (by omega)]; exact HST.out.1) W r1 r2
          rw [VA.out, dval_digs (by omega)] at hsb
          have HSB := Lib.hid hsb
          have hdl := HDX.out (x - r * r) (Nat.sub_le _ _)
          have HS2 := Lib.hid fun ap cp W r1 => row_shut (N := x - r * r) (w' := W) (ap := ap) (cp := cp) r1 (by omega)
          rw [(HSM.out.le (Nat.sub_le x (r * r))).endN] at HS2
          have RAW := Lib.hid (RA.out.below HBW.out (Nat.le_refl _))
          clear hml hsb hdl hrx hrl hlr
          go_wp2_with (first | (go_at_call 65; (refine HU.out.mono ?_); rintro e w4 ⟨aq, cq, ar2, cr2, rfl, rq, rr2, B4⟩; have RQ := Lib.hid rq; have RR4 := Lib.hid (RR.out.below B4 (Nat.le_refl _)); have RA4 := Lib.hid (RAW.out.below B4 (Nat.le_refl _)); clear rq rr2) | (go_at_call 74; (refine (HADD.out aq cq w4 RR4.out RQ.out).mono ?_); rintro e w5 ⟨v5, rfl, ov5, B5⟩; obtain ⟨asu, cs, rfl, rs⟩ := own_slice ov5; have RS := Lib.hid rs; have RR5 := Lib.hid (RR4.out.below B5 (Nat.le_refl _)); have RA5 := Lib.hid (RA4.out.below B5 (Nat.le_refl _)); clear rs ov5) | (go_at_call 68; (refine (HRT.out asu cs w5 RS.out).mono ?_); rintro e w6 ⟨v6, rfl, ov6, B6⟩; obtain ⟨an, cn, rfl, rn⟩ := own_slice ov6; have RN := Lib.hid rn; have RR6 := Lib.hid (RR5.out.below B6 (Nat.le_refl _)); have RA6 := Lib.hid (RA5.out.below B6 (Nat.le_refl _)); clear rn ov6) | (go_at_call 75; (refine (HCM.out an cn w6 RN.out RR6.out).mono ?_); rintro e w7 ⟨rfl, B7⟩; have RA7 := Lib.hid (RA6.out.below B7 (Nat.le_refl _)); have RN7 := Lib.hid (RN.out.below B7 (Nat.le_refl _)); have RR7 := Lib.hid (RR6.out.below B7 (Nat.le_refl _))) | (go_at_call 61; with_reducible refine (HS1.out _ RR7.out).mono ?_; rintro e w8 ⟨rfl, B8⟩; have RR8 := Lib.hid (RR7.out.below B8 (Nat.le_refl _)); have RA8 := Lib.hid (RA7.out.below B8 (Nat.le_refl _))) | (go_at_call 59; (refine (HML.out _ RR8.out RR8.out).mono ?_); rintro e w9 ⟨v9, rfl, ov9, B9⟩; obtain ⟨am, cm, rfl, rm⟩ := own_slice ov9; have RM := Lib.hid rm; have RA9 := Lib.hid (RA8.out.below B9 (Nat.le_refl _)); clear ov9 rm) | (go_at_call 76; (refine (HSB.out am cm _ RA9.out RM.out).mono ?_); rintro e w10 ⟨v10, rfl, ov10, B10⟩; obtain ⟨ad, cd, rfl, rd⟩ := own_slice ov10; have RD := Lib.hid rd; clear ov10 rd) | (go_at_call 61; with_reducible refine (HS2.out ad cd _ RD.out).mono ?_; rintro e w11 ⟨rfl, B11⟩))
          go_ret3
          exact ⟨r, HST.out, rfl, by repeat (first | exact BB.out.on HBW.out | assumption | refine Below.on ?_ (by assumption))⟩
  · have HM2 := Lib.hid (HM.out false (by simp only [hok, decide_false]))
    simp only [hok, if_false, false_implies, true_and]
    clear hok HM
    go_enter Try.func38, Try.ntmps38
    go_wp2_with (go_at_call 58; refine HM2.out.mono ?_; rintro e w1 ⟨rfl, B1⟩)
    go_ret3
    exact ⟨0, rfl, B1⟩
end Go.Proofs.Ytfhkpkebiinglaa
