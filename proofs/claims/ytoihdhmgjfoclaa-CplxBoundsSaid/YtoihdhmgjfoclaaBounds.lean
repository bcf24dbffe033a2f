/- 5.9, THE LAYER'S THEOREM: whatever number: its magnitude lies between the program's bounds, exactly; where it is neither too great nor too small they are near one another. Conditions: none. -/
import Derived.Test.YtoihdhmgjfoclaaBs
import Derived.Test.YtoihdhmgjfoclaaLa
namespace Go.Proofs.Ytoihdhmgjfoclaa
open Go.ChangeShapes Go.WideShapes Go.ChangeAt Go.RowKit Go.Joins
set_option linter.unusedVariables false

theorem inf_case {a b : Nat} (hk : kindN a b ≠ 0) : hiO a b = some 9218868437227405312 ∧ loO a b = some 0 := by
  unfold hiO loO
  rw [if_neg hk, if_neg hk]
  exact ⟨rfl, rfl⟩
set_option maxRecDepth 20000 in
theorem bounds_inf (a b : Int) (ha : 0 ≤ a ∧ a < 18446744073709551616) (hb : 0 ≤ b ∧ b < 18446744073709551616) (hk : kindN a.toNat b.toNat ≠ 0) (w : World) :
    Calls Try.prog 12 #[.agg #[.int .u64 a, .int .u64 b]] w fun e w' => e = .returned (.bool true) ∧ Below w.heap.size w w' := by
  have na : a.toNat < 18446744073709551616 := by omega
  have nb : b.toNat < 18446744073709551616 := by omega
  have hk2 := kind_ne hk
  have HH := Lib.hid (inf_case hk)
  have g1 : eqF 0 0 = true := by decide
  have g2 : sgB 0 = false := by decide
  clear hk
  go_enter Try.func12, Try.ntmps12
  go_wp2_with (first | (go_at_call 13; refine (of_any _ _ _).mono ?_; rintro e w' ⟨rfl, rfl⟩) | (go_at_call 15; refine (hi_any _ _ (by assumption) (by assumption) _).mono ?_; rintro e w' ⟨r1, n1, rfl, rfl, h1⟩; obtain rfl := fv_eq h1 HH.out.1; clear h1) | (go_at_call 17; refine (lo_any _ _ (by assumption) (by assumption) _).mono ?_; rintro e w' ⟨r3, n3, rfl, rfl, h3⟩; obtain rfl := fv_eq h3 HH.out.2; clear h3) | (go_at_call 49; refine (kind_any _ _ (by assumption) (by assumption) _).mono ?_; rintro e w' ⟨rfl, rfl⟩) | (go_at_call 66; refine (isInf1_any _ (by omega) _).mono ?_; rintro e w' ⟨rfl, rfl⟩) | (go_at_call 53; refine (signbit_any _ (by omega) _).mono ?_; rintro e w' ⟨rfl, rfl⟩; rw [g2]) | (go_at_call 19; refine (awakeB_any _).mono ?_; rintro e w' ⟨rfl, B9⟩))
  go_ret
  exact ⟨rfl, (below_drewN ((Below.refl _ w).alloc (Nat.le_refl _) _) _).trans (B9.mono (by simp))⟩
theorem abv_no {A B : List Nat} {x y : Nat} (hA : dval 65536 A = x) (hB : dval 65536 B = y) (h : x ≤ y) : abv A B = false := by
  unfold abv; rw [hA, hB]; simpa using h
theorem run_max_sz {a b : Nat} (ha : a % 9223372036854775808 < iR) (hb : b % 9223372036854775808 < iR) (w : World) :
    (Builtin.max_ #[28, 28] 28 #[.float .f64 (a % 9223372036854775808), .float .f64 (b % 9223372036854775808)]).run Try.prog w = .ok (.float .f64 (szP a b)) w := by
  have e : Builtin.max_ #[28, 28] 28 #[.float .f64 (a % 9223372036854775808), .float .f64 (b % 9223372036854775808)] = Builtin.max2 (.float .f64 (a % 9223372036854775808)) (.float .f64 (b % 9223372036854775808)) := by
    simp [Builtin.max_]
  rw [e]
  unfold szP
  rw [ltF_rung (Nat.le_of_lt ha) (Nat.le_of_lt hb)]
  generalize a % 9223372036854775808 = x at *
  generalize b % 9223372036854775808 = y at *
  have ho := order_cases x y
  rw [if_pos ⟨isN_rung (Nat.le_of_lt ha), isN_rung (Nat.le_of_lt hb)⟩] at ho
  unfold iR at ha hb
  rw [key_pos (by omega), key_pos (by omega)] at ho
  obtain ⟨c1, c2, c3⟩ := cmp_int (x : Int) (y : Int)
  simp only [Builtin.max2]
  rw [ho]
  rcases Nat.lt_trichotomy x y with h | h | h
  · rw [c1.2 (by omega), show decide (x < y) = true by simpa using h]; rfl
  · subst h
    rw [c2.2 rfl, show decide (x < x) = false by simp]
    cases (FloatKind.f64.decode x).neg <;> rfl
  · rw [c3.2 (by omega), show decide (x < y) = false by simp; omega]; rfl
theorem alloc_below (w : World) (o : Obj) : Below w.heap.size w (w.alloc o) := (Below.refl _ _).alloc (Nat.le_refl _) _
theorem lit_row (w : World) (L : List Nat) (A : Array Value) (n : Nat) (hA : A = (cu L).toArray) (hn : n = L.length) (hl : n ≤ 1000) (hd : ∀ d ∈ L, d < 65536) : RowAt (w.alloc (.cells A 39)) w.heap.size n L := by
  subst hA hn
  refine ⟨Nat.le_refl _, by unfold maxLen; omega, by simp, fun i hi => ?_, hd⟩
  rw [World.cell?_alloc_at _ _ _ _ rfl]
  simp [cu, hi]
theorem lit_a (w : World) : RowAt (w.alloc (.cells #[.int .u32 1, .int .u32 0, .int .u32 0, .int .u32 1] 39)) w.heap.size 4 [1, 0, 0, 1] :=
  lit_row w _ _ _ rfl rfl (by omega) (by decide)
theorem lit_b (w : World) : RowAt (w.alloc (.cells #[.int .u32 0, .int .u32 0, .int .u32 0, .int .u32 1] 39)) w.heap.size 4 [0, 0, 0, 1] :=
  lit_row w _ _ _ rfl rfl (by omega) (by decide)
theorem near_no {A B : List Nat} {H L : Nat} (hA : dval 65536 A = H * dval 65536 [0, 0, 0, 1]) (hB : dval 65536 B = L * dval 65536 [1, 0, 0, 1]) (h : H * 281474976710656 ≤ L * 281474976710657) : abv A B = false := by
  refine abv_no hA hB ?_
  have e1 : dval 65536 [0, 0, 0, 1] = 281474976710656 := by decide
  have e2 : dval 65536 [1, 0, 0, 1] = 281474976710657 := by decide
  rw [e1, e2]; exact h
set_option maxRecDepth 20000 in
set_option maxHeartbeats 1000000 in
theorem bounds_fin (a b : Int) (ha : 0 ≤ a ∧ a < 18446744073709551616) (hb : 0 ≤ b ∧ b < 18446744073709551616) (hk : kindN a.toNat b.toNat = 0) (w : World) :
    Calls Try.prog 12 #[.agg #[.int .u64 a, .int .u64 b]] w fun e w' => e = .returned (.bool true) ∧ Below w.heap.size w w' := by
  have na : a.toNat < 18446744073709551616 := by omega
  have nb : b.toNat < 18446744073709551616 := by omega
  obtain ⟨H, L, hB⟩ := bounds_all hk
  have HB := Lib.hid hB
  have gm := fun W => run_max_sz (kind_fin hk).1 (kind_fin hk).2 W
  have hHl := hB.hl
  have hLl := hB.ll
  unfold iR at hHl hLl
  have nH : H < 18446744073709551616 := by omega
  have nL : L < 18446744073709551616 := by omega
  have HSQ := Lib.hid fun W => square_any a.toNat b.toNat na nb W
  have EL : Hid (∀ W, Calls Try.prog 68 #[.float .f64 L] W (Gave (vD L) 133 W)) := fun W => by
    have := exactV_any L nL W
    rwa [Nat.mod_eq_of_lt (by omega)] at this
  have EH : Hid (∀ W, Calls Try.prog 68 #[.float .f64 H] W (Gave (vD H) 133 W)) := fun W => by
    have := exactV_any H nH W
    rwa [Nat.mod_eq_of_lt (by omega)] at this
  have g1 : ltF L 0 = false := by rw [ltF_rung (by unfold iR; omega) (by unfold iR; omega)]; simp
  have g2 : ltF H 0 = false := by rw [ltF_rung (by unfold iR; omega) (by unfold iR; omega)]; simp
  have g3 : isN L = false := isN_rung (by unfold iR; omega)
  have g4 : isN H = false := isN_rung (by unfold iR; omega)
  have g5 : infB L = false := by unfold infB; rw [decide_eq_false_iff_not]; omega
  clear hB hHl hLl
  have HSV : Hid (sqS a.toNat b.toNat = _) := rfl
  unfold sqS at HSV
  rw [← HSV.out] at HSQ
  have HN := Lib.hid HB.out.near
  have HML : Hid (szP a.toNat b.toNat ≤ iR) := Nat.le_of_lt (sz_cases (kind_fin hk).1 (kind_fin hk).2).2.1
  generalize szP a.toNat b.toNat = m at *
  go_enter Try.func12, Try.ntmps12
  go_wp2_with (first | (go_at_call 13; refine (of_any _ _ _).mono ?_; rintro e w' ⟨rfl, rfl⟩) | (go_at_call 15; refine (hi_any _ _ (by assumption) (by assumption) _).mono ?_; rintro e w' ⟨r1, n1, rfl, rfl, h1⟩; obtain rfl := fv_eq h1 HB.out.hi; clear h1) | (go_at_call 17; refine (lo_any _ _ (by assumption) (by assumption) _).mono ?_; rintro e w' ⟨r3, n3, rfl, rfl, h3⟩; obtain rfl := fv_eq h3 HB.out.lo; clear h3) | (go_at_call 49; refine (kind_any _ _ (by assumption) (by assumption) _).mono ?_; rintro e w' ⟨rfl, rfl⟩; rw [hk]))
  have B0 := below_drewN ((Below.refl _ w).alloc (Nat.le_refl _) (.cells #[.int .u64 a, .int .u64 b] 24)) (n1 + n3)
  refine (HSQ.out _).mono ?_
  rintro e1 w1 ⟨bs, cs, Ls, rfl, rs, vs, ls, B1⟩
  have RS := Lib.hid rs
  have VS := Lib.hid vs
  have BB1 := Lib.hid (B0.on B1)
  clear rs vs B0 B1 HSQ
  go_wp2_with (first | (go_at_call 66; refine (isInf0_any _ (by assumption) _).mono ?_; rintro e w' ⟨rfl, rfl⟩; rw [g5]))
  refine (EL.out _).mono ?_
  rintro e2 w2 ⟨bl, cl, Ll, rfl, rl, vl, ll, B2⟩
  have RL := Lib.hid rl
  have VL := Lib.hid vl
  have RS2 := Lib.hid (RS.out.below B2)
  have BB2 := Lib.hid (BB1.out.on B2)
  clear rl vl RS B2 BB1
  go_wp2_with fail
  refine (times_any _ _ _ _ _ _ _ RL.out RL.out (by omega) (by omega)).mono ?_
  rintro e3 w3 ⟨b3, c3, L3, rfl, r3, v3, l3, B3⟩
  have R3 := Lib.hid r3
  have AB := Lib.hid (abv_no (A := L3) (B := Ls) (v3.trans (by rw [VL.out])) VS.out HB.out.below)
  have RS3 := Lib.hid (RS2.out.below B3)
  have BB := Lib.hid (BB2.out.on B3)
  clear r3 v3 RS2 B3 BB2
  go_wp2_with fail
  refine (above_any _ _ _ _ _ _ _ R3.out RS3.out (by omega) (by omega)).mono ?_
  rintro e4 w4 ⟨rfl, rfl⟩
  rw [AB.out]
  by_cases hH : H = 9218868437227405312
  · have hH2 : decide (H = 9218868437227405312) = true := decide_eq_true hH
    have HHI : Hid (¬ H < iR) := by show ¬ _; unfold iR; omega
    clear hH
    go_wp2_with (first | (go_at_call 66; refine (isInf1_any _ (by assumption) _).mono ?_; rintro e w' ⟨rfl, rfl⟩; rw [hH2]) | (go_at_call 71; refine (abs_any _ (by assumption) _).mono ?_; rintro e w' ⟨rfl, rfl⟩))
    by_cases hm1 : m < 103582791429521408
    · have t1 : ltF m 103582791429521408 = true := by rw [ltF_rung HML.out (by unfold iR; omega)]; simpa using hm1
      clear hm1
      go_wp2_with (first | (go_at_call 71; refine (abs_any _ (by assumption) _).mono ?_; rintro e w' ⟨rfl, rfl⟩) | (go_at_call 72; refine (Ldexp_lo _).mono ?_; rintro e w' ⟨q1, rfl, rfl⟩) | (go_at_call 19; refine (awakeB_any _).mono ?_; rintro e w' ⟨rfl, B9⟩))
      go_ret
      exact ⟨rfl, (below_drewN BB.out _).trans (B9.mono BB.out.size)⟩
    · by_cases hm2 : 9110782046170513408 < m
      · have t1 : ltF m 103582791429521408 = false := by rw [ltF_rung HML.out (by unfold iR; omega)]; simpa using hm1
        have t2 : ltF 9110782046170513408 m = true := by rw [ltF_rung (by unfold iR; omega) HML.out]; simpa using hm2
        clear hm1 hm2
        go_wp2_with (first | (go_at_call 71; refine (abs_any _ (by assumption) _).mono ?_; rintro e w' ⟨rfl, rfl⟩) | (go_at_call 72; with_reducible refine (Ldexp_lo _).mono ?_; rintro e w' ⟨q1, rfl, rfl⟩) | (go_at_call 72; with_reducible refine (Ldexp_hi _).mono ?_; rintro e w' ⟨q2, rfl, rfl⟩) | (go_at_call 19; refine (awakeB_any _).mono ?_; rintro e w' ⟨rfl, B9⟩))
        go_ret
        exact ⟨rfl, (below_drewN BB.out _).trans (B9.mono BB.out.size)⟩
      · have HNR := Lib.hid (HN.out (by omega) (by omega))
        exact absurd HNR.out.1 HHI.out
  · have hH2 : decide (H = 9218868437227405312) = false := decide_eq_false hH
    clear hH
    go_wp2_with (first | (go_at_call 66; refine (isInf1_any _ (by assumption) _).mono ?_; rintro e w' ⟨rfl, rfl⟩; rw [hH2]))
    refine (EH.out _).mono ?_
    rintro e5 w5 ⟨bh, ch, Lh, rfl, rh, vh, lh, B5⟩
    have RH := Lib.hid rh
    have VH := Lib.hid vh
    have RS5 := Lib.hid (RS3.out.below B5)
    have BB5 := Lib.hid (BB.out.on B5)
    clear rh vh RS3 B5 BB
    go_wp2_with fail
    refine (times_any _ _ _ _ _ _ _ RH.out RH.out (by omega) (by omega)).mono ?_
    rintro e6 w6 ⟨b6, c6, L6, rfl, r6, v6, l6, B6⟩
    have R6 := Lib.hid r6
    have AB6 := Lib.hid (abv_no (A := Ls) (B := L6) VS.out (v6.trans (by rw [VH.out])) (HB.out.above (by have h1 := HB.out.hl; have h2 := of_decide_eq_false hH2; unfold iR at h1 ⊢; omega)))
    have RS6 := Lib.hid (RS5.out.below B6)
    have BB := Lib.hid (BB5.out.on B6)
    clear r6 v6 RS5 B6 BB5
    go_wp2_with fail
    refine (above_any _ _ _ _ _ _ _ RS6.out R6.out (by omega) (by omega)).mono ?_
    rintro e7 w7 ⟨rfl, rfl⟩
    rw [AB6.out]
    go_wp2_with (first | (go_at_call 71; refine (abs_any _ (by assumption) _).mono ?_; rintro e w' ⟨rfl, rfl⟩))
    by_cases hm1 : m < 103582791429521408
    · have t1 : ltF m 103582791429521408 = true := by rw [ltF_rung HML.out (by unfold iR; omega)]; simpa using hm1
      clear hm1
      go_wp2_with (first | (go_at_call 71; refine (abs_any _ (by assumption) _).mono ?_; rintro e w' ⟨rfl, rfl⟩) | (go_at_call 72; refine (Ldexp_lo _).mono ?_; rintro e w' ⟨q1, rfl, rfl⟩) | (go_at_call 19; refine (awakeB_any _).mono ?_; rintro e w' ⟨rfl, B9⟩))
      go_ret
      exact ⟨rfl, (below_drewN BB.out _).trans (B9.mono BB.out.size)⟩
    · by_cases hm2 : 9110782046170513408 < m
      · have t1 : ltF m 103582791429521408 = false := by rw [ltF_rung HML.out (by unfold iR; omega)]; simpa using hm1
        have t2 : ltF 9110782046170513408 m = true := by rw [ltF_rung (by unfold iR; omega) HML.out]; simpa using hm2
        clear hm1 hm2
        go_wp2_with (first | (go_at_call 71; refine (abs_any _ (by assumption) _).mono ?_; rintro e w' ⟨rfl, rfl⟩) | (go_at_call 72; with_reducible refine (Ldexp_lo _).mono ?_; rintro e w' ⟨q1, rfl, rfl⟩) | (go_at_call 72; with_reducible refine (Ldexp_hi _).mono ?_; rintro e w' ⟨q2, rfl, rfl⟩) | (go_at_call 19; refine (awakeB_any _).mono ?_; rintro e w' ⟨rfl, B9⟩))
        go_ret
        exact ⟨rfl, (below_drewN BB.out _).trans (B9.mono BB.out.size)⟩
      · have HNR := Lib.hid (HN.out (by omega) (by omega))
        have t1 : ltF m 103582791429521408 = false := by rw [ltF_rung HML.out (by unfold iR; omega)]; simpa using hm1
        have t2 : ltF 9110782046170513408 m = false := by rw [ltF_rung (by unfold iR; omega) HML.out]; simpa using hm2
        clear hm1 hm2
        go_wp2_with (first | (go_at_call 72; with_reducible refine (Ldexp_lo _).mono ?_; rintro e w' ⟨q1, rfl, rfl⟩) | (go_at_call 72; with_reducible refine (Ldexp_hi _).mono ?_; rintro e w' ⟨q2, rfl, rfl⟩) | (go_at_call 66; refine (isInf1_any _ (by assumption) _).mono ?_; rintro e w' ⟨rfl, rfl⟩; rw [hH2]))
        have BC := Lib.hid (below_drewN BB.out (q1 + q2))
        clear BB RS6 R6
        refine (EL.out _).mono ?_
        rintro e8 w8 ⟨b8, c8, L8, rfl, r8, v8, l8, B8⟩
        have R8 := Lib.hid r8
        have V8 := Lib.hid v8
        have B8' := Lib.hid B8
        clear r8 v8 B8
        go_wp2_with fail
        have A8 := alloc_below w8 (.cells #[.int .u32 1, .int .u32 0, .int .u32 0, .int .u32 1] 39)
        refine (times_any b8 _ c8 4 L8 [1, 0, 0, 1] _ (R8.out.below A8) (lit_a w8) (by omega) (by simp)).mono ?_
        rintro e9 w9 ⟨b9, c9, L9, rfl, r9, v9, l9, B9⟩
        have R9 := Lib.hid r9
        have V9 := Lib.hid v9
        have B9' := Lib.hid ((B8'.out.on A8).on B9)
        clear r9 v9 B9 A8
        go_wp2_with fail
        refine (EH.out _).mono ?_
        rintro e10 w10 ⟨b10, c10, L10, rfl, r10, v10, l10, B10⟩
        have R10 := Lib.hid r10
        have V10 := Lib.hid v10
        have R9b := Lib.hid (R9.out.below B10)
        have B10' := Lib.hid (B9'.out.on B10)
        clear r10 v10 B10 R9
        go_wp2_with fail
        have A10 := alloc_below w10 (.cells #[.int .u32 0, .int .u32 0, .int .u32 0, .int .u32 1] 39)
        refine (times_any b10 _ c10 4 L10 [0, 0, 0, 1] _ (R10.out.below A10) (lit_b w10) (by omega) (by simp)).mono ?_
        rintro e11 w11 ⟨b11, c11, L11, rfl, r11, v11, l11, B11⟩
        have R11 := Lib.hid r11
        have R9c := Lib.hid ((R9b.out.below A10).below B11)
        have AB11 := Lib.hid (near_no (A := L11) (B := L9) (v11.trans (by rw [V10.out])) (V9.out.trans (by rw [V8.out])) HNR.out.2)
        have B11' := Lib.hid (BC.out.trans (((B10'.out.on A10).on B11).mono BC.out.size))
        have hl9 : L9.length ≤ 1000 := by simp at l9; omega
        have hl11 : L11.length ≤ 1000 := by simp at l11; omega
        clear r11 v11 B11 A10 R9b
        go_wp2_with fail
        refine (above_any _ _ _ _ _ _ _ R11.out R9c.out hl11 hl9).mono ?_
        rintro e12 w12 ⟨rfl, rfl⟩
        rw [AB11.out]
        go_wp2_with (first | (go_at_call 19; refine (awakeB_any _).mono ?_; rintro e w' ⟨rfl, B9⟩))
        go_ret
        exact ⟨rfl, B11'.out.on B9⟩
open Go.WideShapes Go.ChangeShapes in
/-- The row's last step: of old memory nothing has turned. -/
theorem post_of_below {H : Type} {enc : TypeId × Value → H} {P : Program} {f : Func} {s : ChangeSpec} {apart fresh handsOn again : Bool} {W W' : World} {args : Array Value} {v : Value} {ds gs : List (DataW H)} {before pa pv : List MemPlace}
    (hW : DataW.Whole enc P f.params.toList s.vars apart W args.toList ds gs before)
    (hres : ∀ (b : Nat) (sp : Nat → Bool) (hd : Bool), DataW.TrodAll enc P W' b sp hd f.resultTypes.toList (v.resultList f.resultTypes.size) (s.fn H (ds ++ gs)).results [])
    (hargs : ∀ sp : Nat → Bool, (∀ p ∈ before, sp p.block = true) → DataW.TrodAll enc P W' 0 sp true f.params.toList args.toList (s.fn H (ds ++ gs)).args pa)
    (hvars : ∀ sp : Nat → Bool, (∀ p ∈ before, sp p.block = true) → DataW.TrodVars enc P W' sp s.vars (s.fn H (ds ++ gs)).vars pv)
    (hps : before = pa ++ pv) (hb : Below W.heap.size W W')
    (hok : ∀ (j : Nat) (t : TypeId) (r : Value), f.resultTypes[j]? = some t → (v.resultList f.resultTypes.size)[j]? = some r → Value.okWide P W' .any 0 t r) :
    s.post enc P f apart fresh handsOn again W args v W' := by
  have hlt : ∀ p ∈ before, p.block < W.heap.size := fun p hp => hW.lt p hp
  have hold : ∀ p ∈ before, (fun b => decide (b < W.heap.size)) p.block = true := fun p hp => by simpa using hlt p hp
  refine ⟨ds, gs, before, [], pa, pv, hW, hres _ _ _, hargs _ hold, hvars _ hold, World.keptBut_mono (fun p hp => ⟨hp, ?_⟩) (hb.frame (· ∈ before)), fun _ => ?_⟩
  · rw [hps, List.mem_append] at hp
    exact Or.inr hp
  · obtain ⟨_, _, _, _, _, hz, hn⟩ := hW
    refine ⟨hok, _, _, ([] ++ pa) ++ pv, ⟨[] ++ pa, pv, trodAll_append (hargs _ (fun _ _ => rfl)) (hres _ _ _), hvars _ (fun _ _ => rfl), rfl, ?_, ?_⟩, ?_⟩
    · intro b off hp
      have hin : MemPlace.cell b off ∈ before := by rw [hps]; simpa using hp
      rw [hb.frozen (hlt _ hin)]
      exact hz b off hin
    · intro ha
      have := hn ha
      rw [hps] at this
      simpa using this
    · intro p hp _
      rw [hps]
      simpa using hp
theorem law_bounds (a b : Int) (ha : 0 ≤ a ∧ a < 18446744073709551616) (hb : 0 ≤ b ∧ b < 18446744073709551616) (w : World) :
    Calls Try.prog 12 #[.agg #[.int .u64 a, .int .u64 b]] w fun e w' => e = .returned (.bool true) ∧ Below w.heap.size w w' := by
  by_cases hk : kindN a.toNat b.toNat = 0
  · exact bounds_fin a b ha hb hk w
  · exact bounds_inf a b ha hb hk w

set_option maxRecDepth 100000 in
theorem cplxBounds_lifted (os : Os) (started : os.Started) (H : Type) (enc : TypeId × Value → H) :
    ReturnsInHanded {} Try.checked os 12 .any (Rows.cplxBoundsSpec.pre6 enc Try.prog Try.f12 Rows.cplxBoundsRow.domain false) (Rows.cplxBoundsSpec.post enc Try.prog Try.f12 false true false false) := by
  refine returnsInHanded_of_change (C := Try.checked) Try.own started (by kernel_rfl) Try.func12
    (ChangeSpec.witness6 (enc := enc) (C := Try.checked) false ⟨#[], #[.agg #[.int .u64 0, .int .u64 0]], []⟩ 8 (by kernel_rfl) (by kernel_rfl) (by kernel_rfl) (by kernel_rfl)) ?_
  intro W base args ds gs before hval0 hW hcnd _
  have hval : ∀ (j : Nat) t v, Try.f12.params[j]? = some t → args[j]? = some v → Value.okWide Try.prog W .any base t v := hval0
  have hW' := hW
  obtain ⟨p, q, hA0, hV, rfl, hfz, hnd⟩ := hW
  have hA : DataW.TrodAll enc Try.prog W 0 (fun _ => true) true Try.f12.params.toList args.toList ds p := hA0
  rw [Try.params12] at hA hval
  obtain ⟨v0, vs0, d0, ds0, p0, q0, hargs, rfl, rfl, h0, r0⟩ := trodAll_cons hA
  obtain ⟨rfl, rfl, rfl⟩ := trodAll_nil r0
  obtain rfl : args = #[v0] := by cases args; simp_all
  obtain ⟨rfl, rfl⟩ := trodVars_none hV
  obtain ⟨c0, e0, y0, z0, m0, rfl, rfl, rfl, hy0, hz0⟩ := open_agg2 Try.underlying24 (by kernel_rfl) Try.cells24 (hval 0 24 v0 rfl rfl) h0
  obtain ⟨a0, ea0, rfl, wa0⟩ := DataW.trod_int Try.underlying22 hy0
  obtain ⟨b0, eb0, rfl, wb0⟩ := DataW.trod_int Try.underlying22 hz0
  simp at ea0 eb0
  subst ea0 eb0
  clear hA0 hval0
  simp only [List.append_nil] at hW'
  refine (law_bounds a0 b0 (u64_bd wa0) (u64_bd wb0) W).mono fun e W' ⟨he, hg⟩ => ?_
  subst he
  exact ⟨_, rfl, post_of_below (pa := []) (pv := []) hW' (fun _ _ _ => (trodAll_cons_mk (shut_bool Try.underlying4 _) trodAll_mk0)) (fun sp _ => (trodAll_cons_mk (parts_read enc _ sp wa0 wb0) trodAll_mk0)) (fun _ _ => rfl) rfl
    hg (ok_one (by kernel_rfl) rfl (okWide_bool_mk Try.underlying4 _))⟩

theorem cplxBounds_holds : Rows.CplxBoundsSaid :=
  OpenClaim.holds_of_wide 12 Try.f12 rfl rfl rfl rfl rfl rfl rfl ⟨rfl, rfl, rfl, rfl, rfl⟩ rfl rfl rfl rfl rfl (by kernel_rfl) Try.func12 (by kernel_rfl)
    (of_decide_eq_true (by kernel_rfl)) (by unfold Func.isWrapper; rw [if_neg (of_decide_eq_false (by kernel_rfl))]; exact ⟨rfl, rfl⟩)
    (fun os started H enc _ => cplxBounds_lifted os started H enc)
#print axioms cplxBounds_holds

end Go.Proofs.Ytoihdhmgjfoclaa
