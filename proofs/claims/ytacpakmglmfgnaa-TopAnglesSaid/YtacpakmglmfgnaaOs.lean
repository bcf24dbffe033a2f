/-
  Orbit's function: it calls yield at each of the angles.
-/
import Derived.Test.YtacpakmglmfgnaaOr
import Derived.Test.YtacpakmglmfgnaaLk
namespace Go.Proofs.Ytacpakmglmfgnaa
open Go.RowKit Go.Shelf
attribute [local go_sem] Oper.semAt_some

/-- The k-th angle in lowest terms. -/
def px (n den d k : Nat) : Nat := xs n den d k / Nat.gcd (xs n den d k) den
def py (n den d k : Nat) : Nat := den / Nat.gcd (xs n den d k) den
theorem pxy_step (n den d k : Nat) (hden : 0 < den) :
    px n den d (k + 1) = px n den d k * d % py n den d k / Nat.gcd (px n den d k * d % py n den d k) (py n den d k) ∧
    py n den d (k + 1) = py n den d k / Nat.gcd (px n den d k * d % py n den d k) (py n den d k) := by
  have hg : 0 < Nat.gcd (xs n den d k) den := Nat.gcd_pos_of_pos_right _ hden
  have ex : Nat.gcd (xs n den d k) den * px n den d k = xs n den d k := Nat.mul_div_cancel' (Nat.gcd_dvd_left _ _)
  have ey : Nat.gcd (xs n den d k) den * py n den d k = den := Nat.mul_div_cancel' (Nat.gcd_dvd_right _ _)
  have e1 : xs n den d (k + 1) = Nat.gcd (xs n den d k) den * (px n den d k * d % py n den d k) := by
    rw [xs_succ, ← Nat.mul_mod_mul_left, ← Nat.mul_assoc, ex, ey]
  have e2 : Nat.gcd (xs n den d (k + 1)) den = Nat.gcd (xs n den d k) den * Nat.gcd (px n den d k * d % py n den d k) (py n den d k) := by
    rw [e1]
    conv => lhs; arg 2; rw [← ey]
    exact Nat.gcd_mul_left _ _ _
  constructor
  · show xs n den d (k + 1) / Nat.gcd (xs n den d (k + 1)) den = _
    rw [e2, e1, Nat.mul_div_mul_left _ _ hg]
  · show den / Nat.gcd (xs n den d (k + 1)) den = _
    rw [e2]
    conv => lhs; arg 1; rw [← ey]
    rw [Nat.mul_div_mul_left _ _ hg]
theorem pxy_bd (n den d k : Nat) (hden : 0 < den) : px n den d k < py n den d k ∧ py n den d k ≤ den ∧ Nat.gcd (px n den d k) (py n den d k) = 1 := by
  have hg : 0 < Nat.gcd (xs n den d k) den := Nat.gcd_pos_of_pos_right _ hden
  refine ⟨?_, Nat.div_le_self _ _, Nat.coprime_div_gcd_div_gcd hg⟩
  have ex : Nat.gcd (xs n den d k) den * px n den d k = xs n den d k := Nat.mul_div_cancel' (Nat.gcd_dvd_left _ _)
  have ey : Nat.gcd (xs n den d k) den * py n den d k = den := Nat.mul_div_cancel' (Nat.gcd_dvd_right _ _)
  have hlt : xs n den d k < den := Nat.mod_lt _ hden
  refine Nat.lt_of_mul_lt_mul_left (a := Nat.gcd (xs n den d k) den) ?_
  rw [ex, ey]; exact hlt
/-- What Orbit's function knows between two rounds: the angle's box, the base's box, the part's box. -/
structure OM (Bd q d x y : Nat) (w : World) : Prop where
  dl : Bd < w.heap.size
  ql : q < w.heap.size
  d0 : w.cell? ⟨Bd, 0, none⟩ = some (.int .i64 (d : Nat))
  q0 : w.cell? ⟨q, 0, none⟩ = some (.int .u64 (x : Nat))
  q1 : w.cell? ⟨q, 1, none⟩ = some (.int .u64 (y : Nat))
  f : ∀ i, w.frozen? ⟨q, i, none⟩ = false
theorem OM.on {Bd q d x y : Nat} {A B : World} (h : OM Bd q d x y A) (k : Below A.heap.size A B) : OM Bd q d x y B :=
  ⟨Nat.lt_of_lt_of_le h.dl k.size, Nat.lt_of_lt_of_le h.ql k.size, (k.cell (p := ⟨Bd, 0, none⟩) h.dl).trans h.d0,
   (k.cell (p := ⟨q, 0, none⟩) h.ql).trans h.q0, (k.cell (p := ⟨q, 1, none⟩) h.ql).trans h.q1, fun i => (k.frozen (p := ⟨q, i, none⟩) h.ql).trans (h.f i)⟩
theorem OM.kf {Bd q lo d x y : Nat} {A B : World} (h : OM Bd q d x y A) (k : KF lo A B) (hd : lo ≤ Bd) (hq : lo ≤ q) : OM Bd q d x y B :=
  ⟨Nat.lt_of_lt_of_le h.dl k.size, Nat.lt_of_lt_of_le h.ql k.size, k.cell hd h.d0, k.cell hq h.q0, k.cell hq h.q1, fun i => (k.frozen hq h.q0).trans (h.f i)⟩
/-- The angle's box and the base's box, at the start. -/
structure OB (Ba Bd : Nat) (s t : ByteArray) (d : Nat) (w : World) : Prop where
  al : Ba < w.heap.size
  dl : Bd < w.heap.size
  a0 : w.cell? ⟨Ba, 0, none⟩ = some (.bool false)
  a1 : w.cell? ⟨Ba, 1, none⟩ = some (.string s)
  a2 : w.cell? ⟨Ba, 2, none⟩ = some (.string t)
  d0 : w.cell? ⟨Bd, 0, none⟩ = some (.int .i64 (d : Nat))
theorem OB.on {Ba Bd d : Nat} {s t : ByteArray} {A B : World} (h : OB Ba Bd s t d A) (k : Below A.heap.size A B) : OB Ba Bd s t d B :=
  ⟨Nat.lt_of_lt_of_le h.al k.size, Nat.lt_of_lt_of_le h.dl k.size, (k.cell (p := ⟨Ba, 0, none⟩) h.al).trans h.a0, (k.cell (p := ⟨Ba, 1, none⟩) h.al).trans h.a1, (k.cell (p := ⟨Ba, 2, none⟩) h.al).trans h.a2, (k.cell (p := ⟨Bd, 0, none⟩) h.dl).trans h.d0⟩
theorem OM.new {Ba Bd d : Nat} {s t : ByteArray} {w : World} (h : OB Ba Bd s t d w) (x y : Nat) : OM Bd w.heap.size d x y (w.alloc (.cells #[.int .u64 (x : Nat), .int .u64 (y : Nat)] 44)) :=
  ⟨Nat.lt_of_lt_of_le h.dl (alloc_below w _).size, by simp, ((alloc_below w _).cell (p := ⟨Bd, 0, none⟩) h.dl).trans h.d0, new0 _ _ _ _, new1 _ _ _ _, fun i => newf w _ _ _ i rfl⟩
set_option maxRecDepth 100000 in
set_option maxHeartbeats 2000000 in
theorem orbit1_in (m : Nat) (hm : 1 ≤ m) (l n den d Ba Bd lo N : Nat) (hn : n < den) (hden : den ≤ 3000) (h1 : 2 ≤ d) (h2 : d ≤ 64) (hN : (kindA (py n den d 0) d).1 + (kindA (py n den d 0) d).2 = N) (J : Nat → World → Prop) (W : World)
    (hab : ∀ k A B, W.heap.size ≤ A.heap.size → Below W.heap.size A B → J k A → J k B)
    (hY : ∀ k W1, k < N → W.heap.size ≤ W1.heap.size → J k W1 → YieldAt Fence.wide (m - 1) Try.prog l #[ratV (px n den d k) (py n den d k)] W1 fun e W' => e = .returned (.bool true) ∧ J (k + 1) W' ∧ KF lo W1 W')
    (hlo : lo ≤ Bd) (hM : OB Ba Bd (enc (px n den d 0)) (enc (py n den d 0)) d W) (h0 : J 0 W) :
    CallsIn Fence.wide m Try.prog 16 #[.func (.yield l) #[] #[], .pointer (some ⟨Ba, 0, none⟩), .pointer (some ⟨Bd, 0, none⟩)] W fun e W' => (∃ v, e = .returned v) ∧ J N W' := by
  have hb0 := pxy_bd n den d 0 (by omega)
  have HS := Lib.hid fun W => small_any (px n den d 0) (py n den d 0) hb0.1 (by omega) hb0.2.2 W
  have HT := Lib.hid fun W => turns_yes d h1 h2 W
  have HK := Lib.hid fun W => kind_any (py n den d 0) d (by omega) (by omega) (by omega) h2 W
  have hP := (kind_le (d := d) (D := py n den d 0) (by omega) (by omega))
  generalize (kindA (py n den d 0) d).1 = P at *
  generalize (kindA (py n den d 0) d).2 = L at *
  have HB := Lib.hid hM
  unfold ratV at HS
  unfold partV at HS
  have hBd := hM.dl
  obtain ⟨x1, x2, x3, x4, x5, x6⟩ := hM
  generalize hes : enc (px n den d 0) = s at *
  generalize het : enc (py n den d 0) = t at *
  refine callsIn_of_wp Try.func16 rfl trivial ?_ rfl
  simp only [Try.ntmps16, List.size_toArray, List.length_cons, List.length_nil, Nat.reduceAdd, Nat.reduceSub, Array.replicate_succ, Array.replicate_zero, List.push_toArray, List.append_toArray, List.nil_append, List.cons_append]
  gi_wp2_with (first
    | (refine ⟨trivial, ?_⟩; gi_at_call 13; refine (callsIn_wide.2 (HS.out _)).mono ?_; rintro e w1 ⟨rfl, B1⟩; have M1 := Lib.hid (HB.out.on B1); have M2 := Lib.hid (OM.new M1.out (px n den d 0) (py n den d 0)); have B2 := Lib.hid (B1.alloced (o := .cells #[.int .u64 (px n den d 0 : Nat), .int .u64 (py n den d 0 : Nat)] 44)); clear x1 x2 x3 x4 x5 x6; obtain ⟨y1, y2, y3, y4, y5, y6⟩ := M2.out; have y7 := y6 0; have y8 := y6 1)
    | (refine ⟨trivial, ?_⟩; gi_at_call 14; refine (callsIn_wide.2 (HT.out _)).mono ?_; rintro e w2 ⟨rfl, rfl⟩)
    | (refine ⟨trivial, ?_⟩; gi_at_call 15; refine (callsIn_wide.2 (HK.out _)).mono ?_; rintro e w3 ⟨rfl, B3⟩; have M3 := Lib.hid (M2.out.on B3); have B4 := Lib.hid (B2.out.on B3); clear y1 y2 y3 y4 y5 y6 y7 y8))
  have HQ := B1.size
  have HW4 := B4.out.size
  have HJ0 := hab 0 W _ (Nat.le_refl _) B4.out h0
  have hql := M3.out.ql
  clear M1 M2 B1 B2 B3 HS HT HK HB h0 hes het
  generalize w1.heap.size = q at *
  have hlq : lo ≤ q := by omega
  have hdw : IntKind.u64.wrap (d : Int) = d := by rw [IntKind.wrap_u64]; omega
  gi_loopg [31] N (fun g vi wr => ∃ k : Nat, k + g = N ∧ vi = .int .i64 (k : Int) ∧ Hid (OM Bd q d (px n den d k) (py n den d k) wr) ∧ W.heap.size ≤ wr.heap.size ∧ J k wr)
  case atStart => exact ⟨0, by omega, rfl, M3.out, HW4, HJ0⟩
  case round =>
    obtain ⟨k, hk, rfl, HE, hsw, hJ⟩ := hrel
    by_cases hkN : k < N
    · have hkl : (k : Int) < P + L := by omega
      have hbk := pxy_bd n den d k (by omega)
      have HR := Lib.hid fun W => ratioOf_any (px n den d k) (py n den d k) (by omega) (by omega) W
      have hst := pxy_step n den d k (by omega)
      obtain ⟨y2, y3, y4, y5, y6, y9⟩ := HE.out
      have y7 := y9 0
      have y8 := y9 1
      have hY' := Lib.hid (hY k)
      clear hY
      have HST := Lib.hid hst
      clear hst
      gi_wp2_with (first
        | (refine ⟨trivial, ?_⟩; gi_at_call 17; refine (callsIn_wide.2 (HR.out _)).mono ?_; rintro e w4 ⟨rfl, B4⟩; have M4 := Lib.hid (HE.out.on B4); obtain ⟨fn, tmps, assign, body, hy, hR⟩ := hY'.out w4 hkN (Nat.le_trans hsw B4.size) (hab _ _ _ hsw (B4.mono hsw) hJ)))
      refine hR.mono ?_
      rintro e W5 ⟨rfl, hJ5, hk5⟩
      have hs5 := hk5.size
      have M5 := Lib.hid (M4.out.kf hk5 hlo hlq)
      have hs4 := B4.size
      clear y2 y3 y4 y5 y6 y7 y8 y9 hy hR M4 hk5
      obtain ⟨y2, y3, y4, y5, y6, y9⟩ := M5.out
      have HTU := Lib.hid fun W => turn_any (px n den d k) (py n den d k) d (by omega) (by omega) (by omega) (by omega) W
      rw [← HST.out.1, ← HST.out.2] at HTU
      unfold partV at HTU
      gi_wp2_with (first
        | (refine ⟨trivial, ?_⟩; gi_at_call 18; refine (callsIn_wide.2 (HTU.out _)).mono ?_; rintro e w6 ⟨rfl, B6⟩; have M6 := Lib.hid (M5.out.on B6); clear y2 y3 y4 y5 y6 y9; obtain ⟨y2, y3, y4, y5, y6, y9⟩ := M6.out; have y7 := y9 0; have y8 := y9 1))
      have hin := two_set w6 q (.int .u64 (px n den d (k + 1) : Nat)) (.int .u64 (py n den d (k + 1) : Nat)) _ _ y5 y6
      have BQ := hin.2.2 q (Nat.le_refl _)
      have BW := hin.2.2 W.heap.size HQ
      have HE7 : OM Bd q d (px n den d (k + 1)) (py n den d (k + 1)) ((w6.setCell ⟨q, 0, none⟩ (.int .u64 (px n den d (k + 1) : Nat))).setCell ⟨q, 1, none⟩ (.int .u64 (py n den d (k + 1) : Nat))) :=
        ⟨Nat.lt_of_lt_of_le y2 BQ.size, Nat.lt_of_lt_of_le y3 BQ.size, (BQ.cell (p := ⟨Bd, 0, none⟩) (Nat.lt_of_lt_of_le hBd HQ)).trans y4, hin.1, hin.2.1, fun i => by rw [World.frozen?_setCell, World.frozen?_setCell]; exact y9 i⟩
      have BB := (B6.mono (show W.heap.size ≤ W5.heap.size by omega)).trans BW
      gi_roundg (N - (k + 1))
      case measure => omega
      case rel => exact ⟨k + 1, by omega, rfl, HE7, Nat.le_trans (by omega) BB.size, hab _ _ _ (by omega) BB hJ5⟩
    · have hkl : ¬ (k : Int) < P + L := by omega
      have hkn : k = N := by omega
      rw [hkn] at hJ
      clear hkn hk hkN
      gi_wp2
      refine bodyPost_end (results_none rfl _ _ _) rfl ?_
      exact ⟨⟨_, rfl⟩, hJ⟩
end Go.Proofs.Ytacpakmglmfgnaa
