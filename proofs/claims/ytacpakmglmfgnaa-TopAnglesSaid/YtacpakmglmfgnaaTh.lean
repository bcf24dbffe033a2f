/-
  The walk of factors.
-/
import Derived.Test.YtacpakmglmfgnaaTg
namespace Go.Proofs.Ytacpakmglmfgnaa
open Go.RowKit

/-- Where the division by one prime stands. -/
structure SplAt (n p f m c : Nat) : Prop where
  eq : spl p f m c = spl p n n 0
  pos : 0 < m
  le : m ≤ f
  bd : c + m ≤ n
theorem SplAt.step {n p f m c : Nat} (hp : 2 ≤ p) (h : SplAt n p f m c) (hd : m % p = 0) : ∃ f', SplAt n p f' (m / p) (c + 1) := by
  have h1 := h.pos
  have h2 := h.le
  obtain ⟨f', rfl⟩ : ∃ f', f = f' + 1 := ⟨f - 1, by omega⟩
  have e := h.eq
  unfold spl at e
  rw [if_pos hd] at e
  have hdv : p ∣ m := Nat.dvd_of_mod_eq_zero hd
  have h3 : m / p < m := Nat.div_lt_self h1 hp
  have h4 := h.bd
  refine ⟨f', ?_, Nat.div_pos (Nat.le_of_dvd h1 hdv) (by omega), by omega, by omega⟩
  rw [e]; conv => rhs; unfold spl
theorem SplAt.stop {n p f m c : Nat} (h : SplAt n p f m c) (hd : ¬ m % p = 0) : spl p n n 0 = (m, c) := by
  have h1 := h.pos
  have h2 := h.le
  obtain ⟨f', rfl⟩ : ∃ f', f = f' + 1 := ⟨f - 1, by omega⟩
  have e := h.eq
  unfold spl at e
  rw [if_neg hd] at e
  rw [e]; conv => lhs; unfold spl
/-- Where the trial stands. -/
structure FacAt (N f n p : Nat) (L : List (Nat × Nat)) : Prop where
  eq : L ++ tri f n p = facs N
  pos : 0 < n
  le : n ≤ N
  p2 : 2 ≤ p
  fuel : f + p = N + 3
  sq : (p - 1) * (p - 1) ≤ N
  len : L.length + 2 ≤ p
theorem FacAt.start (N : Nat) (h : 0 < N) : FacAt N (N + 1) N 2 [] := ⟨rfl, h, Nat.le_refl _, by omega, by omega, by show 1 * 1 ≤ N; omega, by simp⟩
theorem FacAt.pos_fuel {N f n p : Nat} {L : List (Nat × Nat)} (h : FacAt N f n p L) : ∃ f', f = f' + 1 := by
  refine ⟨f - 1, ?_⟩
  have h1 := h.fuel
  have h2 := h.sq
  have h3 := h.p2
  have h4 : p - 1 ≤ (p - 1) * (p - 1) := Nat.le_mul_of_pos_left _ (by omega)
  omega
theorem FacAt.more {N f n p m c : Nat} {L : List (Nat × Nat)} (h : FacAt N f n p L) (hpp : p * p ≤ n) (hs : spl p n n 0 = (m, c)) (hm : 0 < m) (hmn : m ≤ n) : ∃ f', FacAt N f' m (p + 1) (if 0 < c then L ++ [(p, c)] else L) := by
  have h1 := h.fuel
  have h2 := h.p2
  have h4 := h.len
  have h3 : p * 2 ≤ p * p := Nat.mul_le_mul_left p h2
  obtain ⟨f', rfl⟩ := h.pos_fuel
  have e := h.eq
  unfold tri at e
  rw [if_pos hpp, hs] at e
  refine ⟨f', ?_, hm, Nat.le_trans hmn h.le, by omega, by omega, by rw [Nat.add_sub_cancel]; exact Nat.le_trans hpp h.le, ?_⟩
  · by_cases hc : 0 < c
    · rw [if_pos hc] at e ⊢
      rw [← e, List.append_assoc]
    · rw [if_neg hc] at e ⊢
      rw [← e, List.nil_append]
  · split
    · simp; omega
    · omega
theorem FacAt.done {N f n p : Nat} {L : List (Nat × Nat)} (h : FacAt N f n p L) (hpp : ¬ p * p ≤ n) : (if 1 < n then L ++ [(n, 1)] else L) = facs N := by
  obtain ⟨f', rfl⟩ := h.pos_fuel
  have e := h.eq
  unfold tri at e
  rw [if_neg hpp] at e
  rw [← e]
  split
  · rfl
  · simp
/-- The box of the prime that is tried. -/
structure BoxAt (wr : World) (p c : Nat) (w : World) : Prop where
  a : w.cell? ⟨wr.heap.size, 0, none⟩ = some (.int .u64 (p : Nat))
  b : w.cell? ⟨wr.heap.size, 1, none⟩ = some (.int .i64 (c : Nat))
  f : ∀ i, w.frozen? ⟨wr.heap.size, i, none⟩ = false
  lt : wr.heap.size < w.heap.size
  B : Below wr.heap.size wr w
theorem BoxAt.set {wr w : World} {p c : Nat} (h : BoxAt wr p c w) (c' : Nat) : BoxAt wr p c' (w.setCell ⟨wr.heap.size, 1, none⟩ (.int .i64 (c' : Nat))) :=
  ⟨by rw [cell_off _ _ _ _ _ (by omega)]; exact h.a, World.cell?_setCell_same _ _ _ h.b, fun i => by rw [World.frozen?_setCell]; exact h.f i, by simpa using h.lt, h.B.setCell (p := ⟨wr.heap.size, 1, none⟩) (Nat.le_refl _) _⟩
set_option maxRecDepth 20000 in
theorem factors_any (N : Nat) (hN : 0 < N) (hN2 : N ≤ 3000) (w : World) :
    Calls Try.prog 44 #[.int .u64 (N : Nat)] w fun e w' => ∃ ao cap, e = .returned (.slice ao (facs N).length cap) ∧ FRow w' ao cap (facs N) ∧ (facs N).length ≤ 100 ∧ Below w.heap.size w w' := by
  have HS := Lib.hid (FacAt.start N hN)
  have HF := Lib.hid (Fp.nil w)
  go_enter Try.func44, Try.ntmps44
  go_wp2
  go_loopw [0, 3, 4] (fun vn vl vp wr => ∃ f n p L, p ≤ 60 ∧ vn = .int .u64 ((n : Nat) : Int) ∧ vp = .int .u64 ((p : Nat) : Int) ∧ Hid (FacAt N f n p L) ∧ Hid (Fp w vl L wr)) (fun _ _ vp _ => 62 - (intOf vp).toNat)
  case atStart => exact ⟨N + 1, N, 2, [], by omega, rfl, rfl, HS, HF⟩
  case round =>
    obtain ⟨f, n, p, L, hp60, rfl, rfl, HA, HL⟩ := hrel
    clear HS HF
    have hp2 := HA.out.p2
    have hn0 := HA.out.pos
    have hnN := HA.out.le
    have ez : ∃ z : Nat, z = p * p ∧ (p : Int) * p = (z : Int) := ⟨_, rfl, by simp⟩
    obtain ⟨z, hz1, hz2⟩ := ez
    have hz3 : z ≤ 3600 := by rw [hz1]; exact Nat.le_trans (Nat.mul_le_mul hp60 hp60) (by omega)
    by_cases hpp : p * p ≤ n
    · have hp54 : p ≤ 54 := by
        rcases Nat.lt_or_ge 54 p with h | h
        · have : 55 * 55 ≤ p * p := Nat.mul_le_mul h h
          omega
        · exact h
      have HPP := Lib.hid hpp
      have hzn : (z : Int) ≤ n := by omega
      have hpz : ((p : Int) == 0) = false := by rw [beq_eq_false_iff_ne]; omega
      have hpz2 : ¬ (p : Int) = 0 := by omega
      clear hz1 hpp
      go_wp2
      have HB : Hid (BoxAt wr p 0 (wr.alloc (.cells #[.int .u64 (p : Nat), .int .i64 0] 89))) := ⟨new0 _ _ _ _, new1 _ _ _ _, fun i => newf _ _ _ _ _ rfl, by simp, alloc_below _ _⟩
      have HSP : Hid (SplAt n p n n 0) := ⟨rfl, hn0, Nat.le_refl _, by omega⟩
      go_loopw [0] (fun vm wi => ∃ fs m c, vm = .int .u64 ((m : Nat) : Int) ∧ Hid (SplAt n p fs m c) ∧ Hid (BoxAt wr p c wi)) (fun vm _ => (intOf vm).toNat)
      case atStart => exact ⟨n, n, 0, rfl, HSP, HB⟩
      case round =>
        obtain ⟨fs, m, c, rfl, HM, HX⟩ := hrel
        clear HB HSP
        have hm0 := HM.out.pos
        have hmb := HM.out.bd
        have hxa := HX.out.a
        have hxb := HX.out.b
        have hxf := HX.out.f 1
        have hxl := HX.out.lt
        have hml : m ≤ 3000 := by omega
        have hcl : c ≤ 3000 := by omega
        by_cases hd : m % p = 0
        · have hdz : (m : Int) % p = 0 := by omega
          obtain ⟨fs', hs'⟩ := HM.out.step hp2 hd
          have HS' := Lib.hid hs'
          have HX' := Lib.hid (HX.out.set (c + 1))
          have hq : m / p < m := Nat.div_lt_self hm0 hp2
          obtain ⟨q, hq1⟩ : ∃ q, m / p = q := ⟨_, rfl⟩
          have hq2 : (m : Int) / p = q := by rw [← hq1]; rfl
          rw [hq1] at hq HS'
          clear hd hs' HM HX hq1 hmb
          go_wp2
          go_roundw
          case rel => exact ⟨fs', q, c + 1, rfl, HS', HX'⟩
          case measure => simp [intOf]; first | done | omega
        · have hdz : ((m : Int) % p == 0) = false := by rw [beq_eq_false_iff_ne]; omega
          have hdz2 : ¬ (m : Int) % p = 0 := by omega
          have HSTOP := Lib.hid (HM.out.stop hd)
          obtain ⟨f', hf'⟩ := HA.out.more HPP.out HSTOP.out hm0 (by omega)
          have HB := Lib.hid HX.out.B
          have HL2 := Lib.hid (HL.out.on HB.out)
          have hlen : L.length ≤ 60 := by have := HA.out.len; omega
          by_cases hc : 0 < c
          · rw [if_pos hc] at hf'
            have HF' := Lib.hid hf'
            have hcz : (0 : Int) < c := by omega
            clear hd hc hf' HA HM HSTOP HX hmb hz2 hz3 hzn
            go_wp2_with (first | (at_builtin; refine wpList_append_part rfl _ _ rfl w HL2.out p c rfl rfl (by omega) ?_; intro v' w' hap'; have HAP := Lib.hid hap'; clear hap'))
            go_roundw
            case rel => exact ⟨f', m, p + 1, _, by omega, rfl, by go_num, HF', HAP⟩
            case measure => simp [intOf]; first | done | omega
          · rw [if_neg hc] at hf'
            have HF' := Lib.hid hf'
            obtain rfl : c = 0 := by omega
            clear hd hc hf' HA HM HSTOP HX hmb hz2 hz3 hzn
            go_wp2
            go_roundw
            case rel => exact ⟨f', m, p + 1, L, by omega, rfl, by go_num, HF', HL2⟩
            case measure => simp [intOf]; first | done | omega
    · have HD := Lib.hid (HA.out.done hpp)
      have hzn : ¬ (z : Int) ≤ n := by omega
      have hlen : L.length ≤ 60 := by have := HA.out.len; omega
      clear hz1 hpp HA
      by_cases h1 : 1 < n
      · have h1z : (1 : Int) < n := by omega
        have HD2 := HD
        rw [if_pos h1] at HD2
        clear HD h1
        go_wp2_with (first | (at_builtin; refine wpList_append_part rfl _ _ rfl w HL.out n 1 rfl rfl (by omega) ?_; intro v' w' hap'; have HAP := Lib.hid hap'; clear hap'))
        obtain ⟨ao, cap, rfl, hr⟩ := HAP.out.row
        go_ret
        rw [HD2.out] at hr
        exact ⟨ao, cap, by rw [← HD2.out]; rfl, hr, by rw [← HD2.out]; simp; omega, HAP.out.below⟩
      · have h1z : ¬ (1 : Int) < n := by omega
        have HD2 := HD
        rw [if_neg h1] at HD2
        clear HD h1
        obtain ⟨ao, cap, rfl, hr⟩ := HL.out.row
        have HR := Lib.hid hr
        clear hr
        go_wp2
        go_ret
        exact ⟨ao, cap, by rw [← HD2.out]; rfl, by rw [← HD2.out]; exact HR.out, by rw [← HD2.out]; omega, HL.out.below⟩
end Go.Proofs.Ytacpakmglmfgnaa
