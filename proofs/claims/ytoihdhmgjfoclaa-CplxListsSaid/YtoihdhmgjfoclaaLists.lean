/-
  5.4, 5.5: whatever two lists of numbers: the program's Sum and Dot and the document's are like by bits; lists that are not equally long are refused; the lists stay. Conditions: none.
-/
import Derived.Test.YtoihdhmgjfoclaaLa
import Derived.Test.YtoihdhmgjfoclaaDot
import Derived.Deep.QuietTactic
import Derived.BigQuiet
import Derived.Deep.AppendLies
import Derived.Deep.Slices
import Derived.Deep.Fields
import Derived.SizedLaws
namespace Go.Proofs.Ytoihdhmgjfoclaa
open Go.RowKit
set_option linter.unusedVariables false
theorem info25 : (Try.prog.info? 25).map (fun i => (i.zero, i.size, i.bytes)) = some (some (.complex .f64 0 0), 1, 16) := by kernel_rfl
def cz (p : Int × Int) : Value := .complex .f64 p.1.toNat p.2.toNat
/-- A list of parts in memory. -/
def PartsAt (w : World) (ao : Option Addr) (xs : List (Int × Int)) : Prop :=
  ∀ i (h : i < xs.length), ∃ b off, ao = some ⟨b, off, none⟩ ∧ b < w.heap.size ∧ w.cell? ⟨b, off + i * 2, none⟩ = some (.int .u64 xs[i].1) ∧ w.cell? ⟨b, off + i * 2 + 1, none⟩ = some (.int .u64 xs[i].2)
def L1 (w : World) (B : Nat) (xs : List (Int × Int)) (v : Value) (k : Nat) (wr : World) : Prop :=
  wr.ownsRow B 25 1 v k ((xs.take k).map cz) ∧ Below w.heap.size w wr ∧ w.heap.size ≤ B ∧ B ≤ wr.heap.size
theorem take_cz (xs : List (Int × Int)) (k : Nat) (h : k < xs.length) : (xs.take (k + 1)).map cz = (xs.take k).map cz ++ [cz xs[k]] := by
  rw [List.take_succ_eq_append_getElem h, List.map_append]; rfl
theorem L1.zero (w : World) (xs : List (Int × Int)) (wr : World) (h : Below w.heap.size w wr) : L1 w wr.heap.size xs (.slice none 0 0) 0 wr :=
  ⟨⟨by simp, .inl ⟨rfl, rfl⟩⟩, h, h.size, Nat.le_refl _⟩
theorem L1.step {w wr w1 : World} {B : Nat} {xs : List (Int × Int)} {v v' : Value} {k : Nat} {o : Obj} (h : L1 w B xs v k wr) (hk : k < xs.length)
    (ho : w1.ownsRow B 25 1 v' (k + 1) ((xs.take k).map cz ++ [cz xs[k]])) (hg : (wr.alloc o).drew.grownBy w1 v.ownBlock) : L1 w B xs v' (k + 1) w1 := by
  refine ⟨by rw [take_cz xs k hk]; exact ho, ?_, h.2.2.1, ?_⟩
  · refine ((h.2.1.alloc h.2.1.size o).drew).grown hg ?_ ?_
    · have := h.2.1.size; simp; omega
    · intro g hv
      have := (h.1.lt g hv).1
      have := h.2.2.1
      omega
  · have := hg.size
    have := h.2.2.2
    simp at *
    omega
theorem L1.far {w wr : World} {B b : Nat} {xs : List (Int × Int)} {v : Value} {k : Nat} (h : L1 w B xs v k wr) (hb : b < w.heap.size) : some b ≠ v.ownBlock := by
  intro e
  have := (h.1.lt b e.symm).1
  have := h.2.2.1
  omega
/-- The first list stands while the second one is made. -/
def L2 (w : World) (B : Nat) (xs : List (Int × Int)) (va : Value) (B2 : Nat) (ys : List (Int × Int)) (v : Value) (k : Nat) (wr : World) : Prop :=
  wr.ownsRow B 25 1 va xs.length (xs.map cz) ∧ (∀ g, va.ownBlock = some g → g < B2) ∧ w.heap.size ≤ B ∧ L1 w B2 ys v k wr
theorem L2.zero {w wr : World} {B : Nat} {xs ys : List (Int × Int)} {va : Value} (h : L1 w B xs va xs.length wr) : L2 w B xs va wr.heap.size ys (.slice none 0 0) 0 wr :=
  ⟨by have := h.1; rwa [List.take_length] at this, fun g hg => (h.1.lt g hg).2, h.2.2.1, L1.zero w ys wr h.2.1⟩
theorem L2.step {w wr w1 : World} {B B2 : Nat} {xs ys : List (Int × Int)} {va v v' : Value} {k : Nat} {o : Obj} (h : L2 w B xs va B2 ys v k wr) (hk : k < ys.length)
    (ho : w1.ownsRow B2 25 1 v' (k + 1) ((ys.take k).map cz ++ [cz ys[k]])) (hg : (wr.alloc o).drew.grownBy w1 v.ownBlock) : L2 w B xs va B2 ys v' (k + 1) w1 := by
  refine ⟨?_, h.2.1, h.2.2.1, h.2.2.2.step hk ho hg⟩
  refine ((h.1.alloc o).drew).kept hg ?_
  cases hv : va.ownBlock with
  | none => exact .inl rfl
  | some g =>
    refine .inr fun e => ?_
    have h1 := h.2.1 g hv
    have h2 := (h.2.2.2.1.lt g e.symm).1
    omega
theorem keep_b {wr w1 : World} {o : Obj} {B2 m : Nat} {va vb : Value} {L : List Value} (hob : wr.ownsRow B2 25 1 vb m L) (hfa : ∀ g, va.ownBlock = some g → g < B2)
    (hg : (wr.alloc o).grownBy w1 va.ownBlock) : w1.ownsRow B2 25 1 vb m L := by
  refine (hob.alloc o).kept hg ?_
  cases hv : vb.ownBlock with
  | none => exact .inl rfl
  | some g =>
    refine .inr fun e => ?_
    have h1 := hfa g e.symm
    have h2 := (hob.lt g hv).1
    omega
theorem keep_a {wr w1 w2 : World} {o : Obj} {B B2 n m ga cap : Nat} {va vb : Value} {L L' : List Value} (hoa : w1.ownsRow B 25 1 (.slice (some ⟨ga, 0, none⟩) n cap) n L) (hob : wr.ownsRow B2 25 1 vb m L') (hfa : ∀ g, va.ownBlock = some g → g < B2)
    (hat : va.ownBlock = some ga ∨ ga = wr.heap.size + 1) (hg : (w1.alloc o).grownBy w2 vb.ownBlock) : w2.ownsRow B 25 1 (.slice (some ⟨ga, 0, none⟩) n cap) n L := by
  refine (hoa.alloc o).kept hg (.inr fun e => ?_)
  have e : vb.ownBlock = some ga := e.symm
  have h2 := hob.lt ga e
  rcases hat with h | h
  · have := hfa ga h; omega
  · omega
/-- A row of cells from the head of a block on. -/
def RowAt (w : World) (g : Nat) (L : List Value) : Prop := ∀ j u, L[j]? = some u → w.cell? ⟨g, j, none⟩ = some u
theorem rowAt_own {w : World} {B g n cap : Nat} {L : List Value} (h : w.ownsRow B 25 1 (.slice (some ⟨g, 0, none⟩) n cap) n L) : RowAt w g L := by
  intro j u hu
  have := h.cells (g := g) rfl j u hu
  rwa [Addr.add_lit, Nat.zero_add] at this
def czn (p : Int × Int) : Nat × Nat := (p.1.toNat, p.2.toNat)
theorem rowAt_cz {w : World} {g : Nat} {xs : List (Int × Int)} {t : Value} (h : RowAt w g (xs.map cz ++ [t])) (k : Nat) (hk : k < (xs.map czn).length) :
    w.cell? ⟨g, 0 + k, none⟩ = some (.complex .f64 (xs.map czn)[k].1 (xs.map czn)[k].2) := by
  rw [Nat.zero_add]
  refine h k _ ?_
  have hk' : k < xs.length := by simpa using hk
  rw [List.getElem?_append_left (by simpa using hk'), List.getElem?_map, List.getElem?_eq_getElem hk']
  simp [cz, czn]
theorem rowAt_end {w : World} {g : Nat} {xs : List (Int × Int)} {t : Value} (h : RowAt w g (xs.map cz ++ [t])) : w.cell? ⟨g, xs.length, none⟩ = some t := by
  refine h _ _ ?_
  rw [List.getElem?_append_right (by simp)]
  simp
/-- What stands behind both appends: of old memory nothing has turned; the two rows. -/
structure Fin2 (w W : World) (ga gb : Nat) (xs ys : List (Int × Int)) : Prop where
  below : Below w.heap.size w W
  a : RowAt W ga (xs.map cz ++ [.complex .f64 4635118810238550016 0])
  b : RowAt W gb (ys.map cz ++ [.complex .f64 4635189178982727680 0])
theorem Fin2.drewN {w W : World} {ga gb : Nat} {xs ys : List (Int × Int)} (h : Fin2 w W ga gb xs ys) (n : Nat) : Fin2 w (W.drewN n) ga gb xs ys :=
  ⟨h.below.trans ⟨rfl, rfl, rfl, Nat.le_refl _, fun _ _ => rfl⟩, h.a, h.b⟩
theorem Fin2.sum {w W : World} {ga gb : Nat} {xs ys : List (Int × Int)} (h : Fin2 w W ga gb xs ys) (cap : Nat) (hn : xs.length ≤ 9223372036854775807) :
    Calls Try.prog 39 #[.slice (some ⟨ga, 0, none⟩) xs.length cap] W fun e w' => ∃ re im n, e = .returned (.complex .f64 re im) ∧ w' = W.drewN n ∧ FV re (sumO (xs.map czn)).1 ∧ FV im (sumO (xs.map czn)).2 := by
  have := sum_any ga 0 cap (xs.map czn) (by simpa using hn) W (rowAt_cz h.a)
  rwa [List.length_map] at this
theorem Fin2.rsum {w W : World} {ga gb : Nat} {xs ys : List (Int × Int)} (h : Fin2 w W ga gb xs ys) (cap : Nat) (hn : xs.length ≤ 9223372036854775807) :
    Calls Try.prog 40 #[.slice (some ⟨ga, 0, none⟩) xs.length cap] W fun e w' => ∃ re im n, e = .returned (.complex .f64 re im) ∧ w' = W.drewN n ∧ FV re (sumO (xs.map czn)).1 ∧ FV im (sumO (xs.map czn)).2 := by
  have := rsum_any ga 0 cap (xs.map czn) (by simpa using hn) W (rowAt_cz h.a)
  rwa [List.length_map] at this
theorem Fin2.two {w W : World} {ga gb : Nat} {xs ys : List (Int × Int)} (h : Fin2 w W ga gb xs ys) : TwoAt W ga gb ((xs.map czn).zip (ys.map czn)) := by
  intro k hk
  have hk' : k < (xs.map czn).length ∧ k < (ys.map czn).length := by
    rw [List.length_zip] at hk; omega
  have h1 := rowAt_cz h.a k hk'.1
  have h2 := rowAt_cz h.b k hk'.2
  rw [Nat.zero_add] at h1 h2
  rw [List.getElem_zip]
  exact ⟨h1, h2⟩
theorem zip_len {xs ys : List (Int × Int)} (h : xs.length = ys.length) : ((xs.map czn).zip (ys.map czn)).length = xs.length := by
  rw [List.length_zip, List.length_map, List.length_map]; omega
theorem Fin2.dot {w W : World} {ga gb : Nat} {xs ys : List (Int × Int)} (h : Fin2 w W ga gb xs ys) (m c d : Nat) (he : xs.length = ys.length) (hn : xs.length ≤ 9223372036854775807) (hm : m = ys.length) :
    Calls Try.prog 41 #[.slice (some ⟨ga, 0, none⟩) xs.length c, .slice (some ⟨gb, 0, none⟩) m d] W fun e w' => ∃ re im n, e = .returned (.tuple #[.complex .f64 re im, .int .i64 0]) ∧ w' = W.drewN n ∧ FV re (dotO ((xs.map czn).zip (ys.map czn))).1 ∧ FV im (dotO ((xs.map czn).zip (ys.map czn))).2 := by
  have hz := zip_len he
  have := dot_any ga gb c d ((xs.map czn).zip (ys.map czn)) (by rw [hz]; exact hn) W h.two
  rw [hz] at this
  rw [hm, ← he]
  exact this
theorem Fin2.rdot {w W : World} {ga gb : Nat} {xs ys : List (Int × Int)} (h : Fin2 w W ga gb xs ys) (m c d : Nat) (he : xs.length = ys.length) (hn : xs.length ≤ 9223372036854775807) (hm : m = ys.length) :
    Calls Try.prog 42 #[.slice (some ⟨ga, 0, none⟩) xs.length c, .slice (some ⟨gb, 0, none⟩) m d] W fun e w' => ∃ re im n, e = .returned (.complex .f64 re im) ∧ w' = W.drewN n ∧ FV re (dotO ((xs.map czn).zip (ys.map czn))).1 ∧ FV im (dotO ((xs.map czn).zip (ys.map czn))).2 := by
  have hz := zip_len he
  have := rdot_any ga gb c d ((xs.map czn).zip (ys.map czn)) (by rw [hz]; exact hn) W h.two
  rw [hz] at this
  rw [hm, ← he]
  exact this

theorem bel_drewN {B : Nat} {a b : World} (h : Below B a b) (n : Nat) : Below B a (b.drewN n) := ⟨h.os, h.tape, h.output, h.size, h.block⟩
theorem awake_below (w : World) :
    Calls Try.prog 19 #[] w fun e w' => e = .returned (.bool true) ∧ Below w.heap.size w w' := by
  have c1 : (FloatKind.f64.format.order 13840687554816376832 13840687554816376832 == some .eq) = true := by kernel_rfl
  have c2 : (FloatKind.f64.format.order 4621819117588971520 4621819117588971520 == some .eq) = true := by kernel_rfl
  have c3 : (FloatKind.f64.format.order 13837309855095848960 13837309855095848960 == some .eq) = true := by kernel_rfl
  have c4 : (FloatKind.f64.format.order 4616189618054758400 4616189618054758400 == some .eq) = true := by kernel_rfl
  have c5 : (FloatKind.f64.format.order 4617315517961601024 4617315517961601024 == some .eq) = true := by kernel_rfl
  have c6 : (FloatKind.f64.format.order 4620693217682128896 4620693217682128896 == some .eq) = true := by kernel_rfl
  have c7 : (eqF 9221120237041090561 9221120237041090561 && eqF 0 0) = false := by kernel_rfl
  have c8 : sameB 9221120237041090561 0 9221120237041090561 0 = true := by kernel_rfl
  have c9 : ltF 4617315517961601021 4617315517961601027 = true := hilo
  have c10 : kindN 9221120237041090561 0 = 2 := by kernel_rfl
  go_enter Try.func19, Try.ntmps19
  go_wp2_with (first | (go_at_call 82; go_in) | (go_at_call 28; refine (mul_any _ _ _ _ _).mono ?_; rintro e w' ⟨re, im, n, rfl, rfl, h1, h2⟩; obtain rfl := fv_eq h1 mul12.1; obtain rfl := fv_eq h2 mul12.2; clear h1 h2) | (go_at_call 57; refine (sq_any _ _ _).mono ?_; rintro e w' ⟨re, im, n, rfl, rfl, h1, h2⟩; obtain rfl := fv_eq h1 sq12.1; obtain rfl := fv_eq h2 sq12.2; clear h1 h2) | (go_at_call 39; refine (sum3_any _ _ rfl).mono ?_; rintro e w' ⟨n, rfl, rfl⟩) | (go_at_call 24; refine (same_any _ _ _ _ _).mono ?_; rintro e w' ⟨rfl, rfl⟩) | (go_at_call 43; refine (equal_any _ _ _ _ _).mono ?_; rintro e w' ⟨rfl, rfl⟩) | (go_at_call 15; refine (hi_any _ _ (by omega) (by omega) _).mono ?_; rintro e w' ⟨r, n, rfl, rfl, h1⟩; obtain rfl := fv_eq h1 hi34; clear h1) | (go_at_call 17; refine (lo_any _ _ (by omega) (by omega) _).mono ?_; rintro e w' ⟨r, n, rfl, rfl, h1⟩; obtain rfl := fv_eq h1 lo34; clear h1) | (go_at_call 49; refine (kind_any _ _ (by omega) (by omega) _).mono ?_; rintro e w' ⟨rfl, rfl⟩))
  go_ret
  exact ⟨ret_b (by kernel_rfl), bel_drewN ((bel_drewN (Below.refl _ _) _).alloc (Nat.le_refl _) _) _⟩


set_option maxRecDepth 100000 in
set_option maxHeartbeats 2000000 in
theorem law_lists (ao ap : Option Addr) (cap cap' : Nat) (xs ys : List (Int × Int)) (w : World) (hx : xs.length * 16 ≤ 140737488351232) (hy : ys.length * 16 ≤ 140737488351232)
    (HX : PartsAt w ao xs) (HY : PartsAt w ap ys) :
    Calls Try.prog 7 #[.slice ao xs.length cap, .slice ap ys.length cap'] w fun e w' => e = .returned (.bool true) ∧ Below w.heap.size w w' := by
  obtain ⟨i0, hi0, hz0, hz1, hz2⟩ := info_parts info25
  have GX := Lib.hid HX
  have GY := Lib.hid HY
  clear HX HY
  go_enter Try.func7, Try.ntmps7
  go_wp2
  go_loopw [5, 7] (fun v i wr => ∃ k, k ≤ xs.length ∧ i = .int .i64 ((k : Nat) : Int) ∧ L1 w w.heap.size xs v k wr) (fun _ i _ => xs.length - (intOf i).toNat)
  case atStart => exact ⟨0, Nat.zero_le _, rfl, L1.zero w xs w (Below.refl _ _)⟩
  case round =>
    obtain ⟨k, hk, rfl, hrel⟩ := hrel
    by_cases hlt : k < xs.length
    · obtain ⟨b, off, rfl, hbs, hc1, hc2⟩ := GX.out k hlt
      have hbz := hrel.2.1.size
      have hBz := hrel.2.2.2
      have hd1 := (hrel.2.1.cell (p := ⟨b, off + k * 2, none⟩) hbs).trans hc1
      have hd2 := (hrel.2.1.cell (p := ⟨b, off + k * 2 + 1, none⟩) hbs).trans hc2
      have hown := hrel.1
      have hfar := hrel.far hbs
      have HR := Lib.hid hrel
      clear hc1 hc2 hrel
      go_wp2
      go_region_held3 (fun W => W.cell? ⟨b, off + k * 2, none⟩ = some (.int .u64 xs[k].1) ∧ W.cell? ⟨b, off + k * 2 + 1, none⟩ = some (.int .u64 xs[k].2)) (first | go_keep | exact ⟨by rw [hgrow.cell_far _ (by simp; omega) hfar, World.cell?_drew, World.cell?_alloc_lt _ _ _ (by simp; omega)]; assumption, by rw [hgrow.cell_far _ (by simp; omega) hfar, World.cell?_drew, World.cell?_alloc_lt _ _ _ (by simp; omega)]; assumption⟩) (first | (go_at_call 13; refine (of_any _ _ _).mono ?_; rintro e w' ⟨rfl, rfl⟩) | (refine step_append_lies _ (by rfl) _ _ _ (by rfl) w.heap.size 25 i0 _ 1 16 Try.underlying49 hi0 hz0 hz1 hz2 rfl (by omega) _ k ((xs.take k).map cz) (by rfl) ((hown.alloc _).drew) ⟨wr.heap.size, 0, none⟩ 1 1 [cz xs[k]] (by rfl) (by rfl) (World.news_of_block (cs := #[cz xs[k]]) (t := 25) (fr := (0, 0)) (heap_alloc_new wr _)) (by simp [Value.oneCell', cz]) (by omega) (by unfold maxLen; omega) (by omega) (by simp; omega) (wr.heap.size + 1) (by simp) ?_; intro gg cap1 w1 hown1 hgrow hat hlt1))
      have HS := Lib.hid (HR.out.step hlt hown1 hgrow)
      clear hown hown1 hgrow hat hlt1 hd1 hd2 HR
      go_wp2
      go_roundw
      case rel => exact ⟨k + 1, by omega, by go_num, HS.out⟩
      case measure => simp [intOf]; omega
    · have e : k = xs.length := by omega
      subst e
      have HR1 := Lib.hid hrel
      clear hrel hk
      go_wp2
      obtain ⟨wa, rfl⟩ : ∃ wo : World, wo = wr := ⟨_, rfl⟩
      obtain ⟨va, rfl⟩ : ∃ v : Value, v = u5 := ⟨_, rfl⟩
      go_loopw [6, 8] (fun v i wr => ∃ k, k ≤ ys.length ∧ i = .int .i64 ((k : Nat) : Int) ∧ L2 w w.heap.size xs va wa.heap.size ys v k wr) (fun _ i _ => ys.length - (intOf i).toNat)
      case atStart => exact ⟨0, Nat.zero_le _, rfl, L2.zero HR1.out⟩
      case round =>
        obtain ⟨k, hk, rfl, hrel2⟩ := hrel
        by_cases hlt : k < ys.length
        · obtain ⟨b, off, rfl, hbs, hc1, hc2⟩ := GY.out k hlt
          have hbz := hrel2.2.2.2.2.1.size
          have hBz := hrel2.2.2.2.2.2.2
          have hd1 := (hrel2.2.2.2.2.1.cell (p := ⟨b, off + k * 2, none⟩) hbs).trans hc1
          have hd2 := (hrel2.2.2.2.2.1.cell (p := ⟨b, off + k * 2 + 1, none⟩) hbs).trans hc2
          have hown := hrel2.2.2.2.1
          have hfar := hrel2.2.2.2.far hbs
          have HR := Lib.hid hrel2
          clear hc1 hc2 hrel2
          go_wp2
          go_region_held3 (fun W => W.cell? ⟨b, off + k * 2, none⟩ = some (.int .u64 ys[k].1) ∧ W.cell? ⟨b, off + k * 2 + 1, none⟩ = some (.int .u64 ys[k].2)) (first | go_keep | exact ⟨by rw [hgrow.cell_far _ (by simp; omega) hfar, World.cell?_drew, World.cell?_alloc_lt _ _ _ (by simp; omega)]; assumption, by rw [hgrow.cell_far _ (by simp; omega) hfar, World.cell?_drew, World.cell?_alloc_lt _ _ _ (by simp; omega)]; assumption⟩) (first | (go_at_call 13; refine (of_any _ _ _).mono ?_; rintro e w' ⟨rfl, rfl⟩) | (refine step_append_lies _ (by rfl) _ _ _ (by rfl) wa.heap.size 25 i0 _ 1 16 Try.underlying49 hi0 hz0 hz1 hz2 rfl (by omega) _ k ((ys.take k).map cz) (by rfl) ((hown.alloc _).drew) ⟨wr.heap.size, 0, none⟩ 1 1 [cz ys[k]] (by rfl) (by rfl) (World.news_of_block (cs := #[cz ys[k]]) (t := 25) (fr := (0, 0)) (heap_alloc_new wr _)) (by simp [Value.oneCell', cz]) (by omega) (by unfold maxLen; omega) (by omega) (by simp; omega) (wr.heap.size + 1) (by simp) ?_; intro gg cap1 w1 hown1 hgrow hat hlt1))
          have HS := Lib.hid (HR.out.step hlt hown1 hgrow)
          clear hown hown1 hgrow hat hlt1 hd1 hd2 HR
          go_wp2
          go_roundw
          case rel => exact ⟨k + 1, by omega, by go_num, HS.out⟩
          case measure => simp [intOf]; omega

        · have e : k = ys.length := by omega
          subst e
          obtain ⟨hoa, hfa, hwB, hob, hbl, hBB, hBw⟩ := hrel2
          rw [List.take_length] at hob
          have hbs := hbl.size
          obtain ⟨vb, rfl⟩ : ∃ v : Value, v = u6 := ⟨_, rfl⟩
          clear hk HR1 hlt hwB
          have hFA := Lib.hid hfa
          have hBL := Lib.hid hbl
          clear hfa hbl
          have hKB := Lib.hid (fun (w1 : World) (hg : (wr.alloc (.cells #[.complex .f64 4635118810238550016 0] 25)).grownBy w1 va.ownBlock) => keep_b hob hFA.out hg)
          have hNA : Hid (∀ g, va.ownBlock = some g → w.heap.size ≤ g) := fun g hg => (hoa.lt g hg).1
          go_wp2_with (first | (at_builtin; refine wpList_append_lies _ rfl (.tmp 55) (.tmp 56) 49 rfl w.heap.size 25 i0 _ 1 16 Try.underlying49 hi0 hz0 hz1 hz2 rfl (by omega) va xs.length (xs.map cz) rfl (hoa.alloc _) ⟨wr.heap.size, 0, none⟩ 1 1 [.complex .f64 4635118810238550016 0] rfl rfl (World.news_of_block (cs := #[.complex .f64 4635118810238550016 0]) (t := 25) (fr := (0, 0)) (heap_alloc_new wr _)) (by simp [Value.oneCell']) (by omega) (by unfold maxLen; omega) (by omega) (by simp; omega) (wr.heap.size + 1) (by simp) ?_; intro ga capa wa1 hoa1 hga hata hlta; have hob1 := hKB.out wa1 hga; have hsz1 : wr.heap.size + 1 ≤ wa1.heap.size := (by have := hga.size; simpa using this)) | (at_builtin; refine wpList_append_lies _ rfl (.tmp 58) (.tmp 59) 49 rfl wa.heap.size 25 i0 _ 1 16 Try.underlying49 hi0 hz0 hz1 hz2 rfl (by omega) vb ys.length (ys.map cz) rfl (hob1.alloc _) ⟨wa1.heap.size, 0, none⟩ 1 1 [.complex .f64 4635189178982727680 0] rfl rfl (World.news_of_block (cs := #[.complex .f64 4635189178982727680 0]) (t := 25) (fr := (0, 0)) (heap_alloc_new wa1 _)) (by simp [Value.oneCell']) (by omega) (by unfold maxLen; omega) (by omega) (by simp; omega) (wa1.heap.size + 1) (by simp) ?_; intro gb capb W hob2 hgb hatb hltb; have hoa2 := keep_a hoa1 hob hFA.out hata hgb; have hsz2 : wa1.heap.size + 1 ≤ W.heap.size := (by have := hgb.size; simpa using this)))
          have hF : Fin2 w W ga gb xs ys := by
            refine ⟨?_, rowAt_own hoa2, rowAt_own hob2⟩
            have h1 : Below w.heap.size w wa1 := (hBL.out.alloc hBL.out.size _).grown hga (by simp; omega) hNA.out
            refine (h1.alloc h1.size _).grown hgb (by simp; omega) ?_
            intro g hg
            have := (hob.lt g hg).1
            omega
          have HF := Lib.hid hF
          have hca : xs.length + 1 ≤ capa := by
            rcases hoa2.2 with ⟨h, _⟩ | ⟨g, cap, cur, h, _, _, h2, _⟩
            · cases h
            · cases h; exact h2
          have hcb : ys.length + 1 ≤ capb := by
            rcases hob2.2 with ⟨h, _⟩ | ⟨g, cap, cur, h, _, _, h2, _⟩
            · cases h
            · cases h; exact h2
          clear hF hoa hob hoa1 hoa2 hob1 hob2 hga hgb hata hatb hlta hltb hsz1 hsz2 hNA hKB hFA hBL hbs hBB hBw hi0 hz0 hz1 hz2
          have hxl : xs.length ≤ 9223372036854775807 := by omega
          go_quiet (fail)
          have HF2 := Lib.hid (HF.out.drewN nq)
          clear HF
          generalize W.drewN nq = W2 at HF2
          go_wp2_with (first | (go_at_call 39; refine (HF2.out.sum _ hxl).mono ?_; rintro e w' ⟨r1, i1, n1, rfl, rfl, h1, h2⟩) | (go_at_call 40; refine ((HF2.out.drewN _).rsum _ hxl).mono ?_; rintro e w' ⟨r2, i2, n2, rfl, rfl, h3, h4⟩) | (go_at_call 21; refine (llike_yes _ _ _ _ _ (h1.cn.trans h3.cn.symm) (h2.cn.trans h4.cn.symm)).mono ?_; rintro e w' ⟨rfl, rfl⟩))
          have hcase : ((xs.length : Int) != ys.length) = true ∨ (((xs.length : Int) != ys.length) = false ∧ Hid (xs.length = ys.length)) := by
            by_cases h : xs.length = ys.length
            · exact .inr ⟨by simp [h], h⟩
            · refine .inl ?_
              have : ¬ (xs.length : Int) = ys.length := by omega
              simpa using this
          rcases hcase with hne | ⟨hne, he⟩
          all_goals
            go_wp2_with (first | (go_at_call 41; first | (refine (dot_no _ _ _ _ _ _ hne _).mono ?_; rintro e w' ⟨rfl, rfl⟩) | (refine ((HF2.out.drewN _).dot _ _ _ he.out hxl rfl).mono ?_; rintro e w' ⟨r3, i3, n3, rfl, rfl, g1, g2⟩)) | (go_at_call 42; refine ((HF2.out.drewN _).rdot _ _ _ he.out hxl rfl).mono ?_; rintro e w' ⟨r4, i4, n4, rfl, rfl, g3, g4⟩) | (go_at_call 21; first | (refine (llike_yes _ _ _ _ _ (g1.cn.trans g3.cn.symm) (g2.cn.trans g4.cn.symm)).mono ?_; rintro e w' ⟨rfl, rfl⟩) | (refine (llike_yes _ _ _ _ _ rfl rfl).mono ?_; rintro e w' ⟨rfl, rfl⟩)))
            generalize hW3 : W2.drewN _ = W3
            have HF3 : Hid (Fin2 w W3 ga gb xs ys) := by subst hW3; exact HF2.out.drewN _
            clear hW3 HF2 h1 h2 h3 h4
            go_loopw [13] (fun i wr => ∃ k, k ≤ xs.length ∧ i = .int .i64 ((k : Nat) : Int) ∧ Fin2 w wr ga gb xs ys) (fun i _ => xs.length - (intOf i).toNat)
            case atStart => exact ⟨0, Nat.zero_le _, rfl, HF3.out⟩
            case round =>
              obtain ⟨k, hk, rfl, hrel⟩ := hrel
              by_cases hlt : k < xs.length
              · obtain ⟨b, off, rfl, hbs, hc1, hc2⟩ := GX.out k hlt
                have hd1 := (hrel.below.cell (p := ⟨b, off + k * 2, none⟩) hbs).trans hc1
                have hd2 := (hrel.below.cell (p := ⟨b, off + k * 2 + 1, none⟩) hbs).trans hc2
                have hd3 := rowAt_cz hrel.a k (by rw [List.length_map]; exact hlt)
                rw [Nat.zero_add, List.getElem_map] at hd3
                unfold czn at hd3
                dsimp only at hd3
                have HR := Lib.hid hrel
                have hlz : (k : Int) < ((xs.length : Nat) : Int) := by omega
                have hlz1 : (k : Int) < ((xs.length + 1 : Nat) : Int) := by omega
                clear hc1 hc2 hrel
                go_wp2
                go_quiet (first | (go_at_call 13; exact Calls.quiet_of_same (of_any _ _ _)) | (go_at_call 21; exact Calls.quiet_of_same (llike_yes _ _ _ _ _ rfl rfl)))
                have HS := Lib.hid (HR.out.drewN nq)
                clear HR
                go_wp2
                go_roundw
                case rel => exact ⟨k + 1, by omega, by go_num, HS.out⟩
                case measure => simp [intOf]; omega
              · have HF3 := Lib.hid hrel
                clear hrel
                go_wp2
                go_loopw [14] (fun i wr => ∃ k, k ≤ ys.length ∧ i = .int .i64 ((k : Nat) : Int) ∧ Fin2 w wr ga gb xs ys) (fun i _ => ys.length - (intOf i).toNat)
                case atStart => exact ⟨0, Nat.zero_le _, rfl, HF3.out⟩
                case round =>
                  obtain ⟨k, hk, rfl, hrel⟩ := hrel
                  by_cases hlt : k < ys.length
                  · obtain ⟨b, off, rfl, hbs, hc1, hc2⟩ := GY.out k hlt
                    have hd1 := (hrel.below.cell (p := ⟨b, off + k * 2, none⟩) hbs).trans hc1
                    have hd2 := (hrel.below.cell (p := ⟨b, off + k * 2 + 1, none⟩) hbs).trans hc2
                    have hd3 := rowAt_cz hrel.b k (by rw [List.length_map]; exact hlt)
                    rw [Nat.zero_add, List.getElem_map] at hd3
                    unfold czn at hd3
                    dsimp only at hd3
                    have HR := Lib.hid hrel
                    have hlz : (k : Int) < ((ys.length : Nat) : Int) := by omega
                    have hlz1 : (k : Int) < ((ys.length + 1 : Nat) : Int) := by omega
                    clear hc1 hc2 hrel
                    go_wp2
                    go_quiet (first | (go_at_call 13; exact Calls.quiet_of_same (of_any _ _ _)) | (go_at_call 21; exact Calls.quiet_of_same (llike_yes _ _ _ _ _ rfl rfl)))
                    have HS := Lib.hid (HR.out.drewN nq)
                    clear HR
                    go_wp2
                    go_roundw
                    case rel => exact ⟨k + 1, by omega, by go_num, HS.out⟩
                    case measure => simp [intOf]; omega
                  · have HF3 := Lib.hid hrel
                    clear hrel
                    have hz1 := rowAt_end HF3.out.a
                    have hz2 := rowAt_end HF3.out.b
                    have q1 : (FloatKind.f64.format.order 4635118810238550016 4635118810238550016 == some .eq) = true := by kernel_rfl
                    have q2 : (FloatKind.f64.format.order 4635189178982727680 4635189178982727680 == some .eq) = true := by kernel_rfl
                    have q3 : (FloatKind.f64.format.order 0 0 == some .eq) = true := by kernel_rfl
                    have HB3 := Lib.hid HF3.out.below
                    clear HF3
                    go_wp2_with (first | (go_at_call 19; refine (awake_below _).mono ?_; rintro e w' ⟨rfl, hg⟩))
                    go_ret
                    exact ⟨rfl, HB3.out.trans (hg.mono HB3.out.size)⟩

open Go.ChangeShapes Go.WideShapes Go.ChangeAt Go.RowKit Go.Joins
theorem Try.laidOut : laidOutB Try.prog = true := by kernel_rfl
theorem Try.bytes24 : Try.prog.bytesOf 24 = 16 := by kernel_rfl
theorem list_of {P : Nat → Int × Int → Prop} (n : Nat) (h : ∀ i, i < n → ∃ p, P i p) : ∃ xs : List (Int × Int), xs.length = n ∧ ∀ i (hi : i < xs.length), P i xs[i] := by
  induction n with
  | zero => exact ⟨[], rfl, fun i hi => by simp at hi⟩
  | succ n ih =>
    obtain ⟨xs, hl, hp⟩ := ih (fun i hi => h i (by omega))
    obtain ⟨p, hpn⟩ := h n (by omega)
    refine ⟨xs ++ [p], by simp [hl], fun i hi => ?_⟩
    by_cases hlt : i < xs.length
    · rw [List.getElem_append_left hlt]; exact hp i hlt
    · have : i = n := by simp at hi; omega
      subst this
      rw [List.getElem_append_right (by omega)]
      simpa using hpn
/-- A slice of Parts that came in, opened. -/
theorem parts_open {H : Type} {enc : TypeId × Value → H} {W : World} {ao : Option Addr} {len cap : Nat} {d : DataW H} {ps : List MemPlace}
    (h : DataW.Trod enc Try.prog W 0 (fun _ => true) true 48 (.slice ao len cap) d ps) :
    ∃ xs : List (Int × Int), xs.length = len ∧ PartsAt W ao xs ∧ (len = 0 ∨ ∃ elems spare, d = .slice elems spare ∧ elems.length = len) := by
  obtain ⟨fuel, hf⟩ := h
  have c22 : Try.prog.cellsOf 22 = 1 := by kernel_rfl
  rcases Go.Deep.open_slice Try.underlying48 hf with ⟨hcs, _⟩ | ⟨a, l, c, m, n, D, Pl, hcs, _, hl, _, hmm, hx, hi⟩
  · simp [Value.cells] at hcs
    obtain ⟨rfl, rfl, rfl⟩ := hcs
    exact ⟨[], rfl, fun i hi => by simp at hi, .inl rfl⟩
  · simp [Value.cells] at hcs
    obtain ⟨rfl, rfl, rfl⟩ := hcs
    have hm : m = cap := by rw [hmm]; rfl
    have cell : ∀ i, i < len → ∃ p : Int × Int, W.cell? ((a.add (i * 2)).add 0) = some (.int .u64 p.1) ∧ W.cell? ((a.add (i * 2)).add 1) = some (.int .u64 p.2) := by
      intro i hil
      obtain ⟨cs', hc, ht⟩ := hi i (by omega)
      rw [Try.cells24] at hc
      obtain ⟨_, hcl, hat⟩ := World.cells?_some hc
      obtain ⟨p, rfl⟩ : ∃ p : Int × Int, cs' = [.int .u64 p.1, .int .u64 p.2] := by
        match cs', hcl with
        | [u0, u1], _ =>
          obtain ⟨y0, y1, k, _, _, hy0, hy1⟩ := trod_struct2 Try.underlying24 ht
          have g0 : DataW.trod enc Try.prog W 0 (fun _ => true) true k 22 (([u0, u1].drop 0).take (Try.prog.cellsOf 22)) = some y0 := hy0
          have g1 : DataW.trod enc Try.prog W 0 (fun _ => true) true k 22 (([u0, u1].drop 1).take (Try.prog.cellsOf 22)) = some y1 := hy1
          rw [c22] at g0 g1
          obtain ⟨p0, e0, _, _⟩ := DataW.trod_int Try.underlying22 g0
          obtain ⟨p1, e1, _, _⟩ := DataW.trod_int Try.underlying22 g1
          simp at e0 e1
          exact ⟨(p0, p1), by rw [e0, e1]⟩
      exact ⟨p, hat 0 (by omega), hat 1 (by omega)⟩
    obtain ⟨xs, hxl, hxp⟩ := list_of len cell
    refine ⟨xs, hxl, fun i hil => ?_, .inr ⟨_, _, by simpa using congrArg Prod.fst hx, by simp⟩⟩
    obtain ⟨b, off, spot⟩ := a
    have hspot : spot = none := by
      have := World.cell?_spot (hxp 0 (by omega)).1
      simpa [Addr.add] using this
    subst hspot
    obtain ⟨h0, h1⟩ := hxp i hil
    rw [Addr.add_lit, Addr.add_lit, Nat.add_zero] at h0
    rw [Addr.add_lit, Addr.add_lit] at h1
    exact ⟨b, off, rfl, World.block_lt_of_cell? W _ h0, h0, h1⟩

set_option maxRecDepth 100000 in
theorem cplxLists_lifted (os : Os) (started : os.Started) (H : Type) (enc : TypeId × Value → H) :
    ReturnsInHanded {} Try.checked os 7 .any (Rows.cplxListsSpec.pre6 enc Try.prog Try.f7 Rows.cplxListsRow.domain false) (Rows.cplxListsSpec.post enc Try.prog Try.f7 false true false false) := by
  refine returnsInHanded_of_change_sized (C := Try.checked) Try.own started (by kernel_rfl) Try.func7
    (ChangeSpec.witness6 (enc := enc) (C := Try.checked) false ⟨#[], #[.slice none 0 0, .slice none 0 0], []⟩ 8 (by kernel_rfl) (by kernel_rfl) (by kernel_rfl) (by kernel_rfl)) ?_
  intro W base args ds gs before hval0 hW hcnd hsz0 _
  have hsz : (DataW.weightsEach Try.prog (Try.f7.params.toList ++ Rows.cplxListsSpec.plain.varTypes Try.prog) (ds ++ gs)).all (· ≤ reachBytes) = true := hsz0
  clear hsz0
  have hval : ∀ (j : Nat) t v, Try.f7.params[j]? = some t → args[j]? = some v → Value.okWide Try.prog W .any base t v := hval0
  have hW' := hW
  obtain ⟨p, q, hA0, hV, rfl, hfz, hnd⟩ := hW
  have hA : DataW.TrodAll enc Try.prog W 0 (fun _ => true) true Try.f7.params.toList args.toList ds p := hA0
  rw [Try.params7] at hA hval hsz
  obtain ⟨v0, vs0, d0, ds0, p0, q0, hargs, rfl, rfl, h0, r0⟩ := trodAll_cons hA
  obtain ⟨v1, vs1, d1, ds1, p1, q1, rfl, rfl, rfl, h1, r1⟩ := trodAll_cons r0
  obtain ⟨rfl, rfl, rfl⟩ := trodAll_nil r1
  obtain rfl : args = #[v0, v1] := by cases args; simp_all
  obtain ⟨rfl, rfl⟩ := trodVars_none hV
  obtain ⟨a0, len0, cap0, rfl⟩ := okWide_slice Try.underlying48 (hval 0 48 v0 rfl rfl)
  obtain ⟨a1, len1, cap1, rfl⟩ := okWide_slice Try.underlying48 (hval 1 48 v1 rfl rfl)
  have k0 := h0
  have k1 := h1
  have lt0 : ∀ x ∈ p0, x.block < W.heap.size := by obtain ⟨m, hm⟩ := k0; exact DataW.trod_lt m _ _ _ hm
  have lt1 : ∀ x ∈ p1, x.block < W.heap.size := by obtain ⟨m, hm⟩ := k1; exact DataW.trod_lt m _ _ _ hm
  obtain ⟨xs, hx, HX, rx⟩ := parts_open h0
  obtain ⟨ys, hy, HY, ry⟩ := parts_open h1
  have bx : xs.length * 16 ≤ 140737488351232 := by
    rcases rx with h | ⟨elems, spare, rfl, hl⟩
    · omega
    · have := sized_slice hsz (j := 0) (t := 48) (e := 24) rfl rfl Try.underlying48
      rw [Try.bytes24] at this
      simp only [reachBytes] at this
      omega
  have bY : ys.length * 16 ≤ 140737488351232 := by
    rcases ry with h | ⟨elems, spare, rfl, hl⟩
    · omega
    · have := sized_slice hsz (j := 1) (t := 48) (e := 24) rfl rfl Try.underlying48
      rw [Try.bytes24] at this
      simp only [reachBytes] at this
      omega
  subst hx hy
  clear hA0 hval0
  refine (law_lists a0 a1 cap0 cap1 xs ys W bx bY HX HY).mono fun e W' ⟨he, bel⟩ => ?_
  subst he
  exact ⟨_, rfl, _, _, _, [], _, [], hW', trodAll_mk1 (shut_bool Try.underlying4 _), (trodAll_cons_mk (Below.trod Try.laidOut (by kernel_rfl) (of_decide_eq_true (by kernel_rfl)) k0 bel lt0) (trodAll_cons_mk (Below.trod Try.laidOut (by kernel_rfl) (of_decide_eq_true (by kernel_rfl)) k1 bel lt1) trodAll_mk0)), rfl, bel.frame _, fun h => by cases h⟩

theorem cplxLists_holds : Rows.CplxListsSaid :=
  OpenClaim.holds_of_wide 7 Try.f7 rfl rfl rfl rfl rfl rfl rfl ⟨rfl, rfl, rfl, rfl, rfl⟩ rfl rfl rfl rfl rfl (by kernel_rfl) Try.func7 (by kernel_rfl)
    (of_decide_eq_true (by kernel_rfl)) (by unfold Func.isWrapper; rw [if_neg (of_decide_eq_false (by kernel_rfl))]; exact ⟨rfl, rfl⟩)
    (fun os started H enc _ => cplxLists_lifted os started H enc)
#print axioms cplxLists_holds

end Go.Proofs.Ytoihdhmgjfoclaa
