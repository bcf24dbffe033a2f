/-
  The angle stands in All's list; Orbit's two boxes.
-/
import Derived.Test.YtacpakmglmfgnaaAb
import Derived.Test.YtacpakmglmfgnaaOs
namespace Go.Proofs.Ytacpakmglmfgnaa
open Go.RowKit

theorem fl_mem {x y n : Nat} (hxy : x < y) (hy : y ≤ 3000) (hg : Nat.gcd x y = 1) (hn0 : 0 < n) (hk1 : (kindA y 2).1 = 0) (hk2 : (kindA y 2).2 = n) : (x, y) ∈ Fl (2 ^ n - 1) n (2 ^ n - 1) := by
  have h := (kind_eq (D := y) (d := 2) (n := 1) (by omega) hy (by omega) (by omega) (Nat.gcd_one_left _) (i := 0) (j := n) hn0).2 ⟨by omega, by rw [hk2, Nat.sub_zero]; exact Nat.dvd_refl _⟩
  rw [Nat.pow_zero, Nat.one_mul, Nat.one_mul, mod_eq_iff_dvd (Nat.pow_pos (by omega))] at h
  obtain ⟨c, hc⟩ := h
  have hM : 0 < 2 ^ n - 1 := by
    have : 2 ^ 1 ≤ 2 ^ n := Nat.pow_le_pow_right (by omega) (by omega)
    omega
  generalize 2 ^ n - 1 = M at *
  have hc0 : 0 < c := by
    rcases Nat.eq_zero_or_pos c with e | e
    · subst e; omega
    · exact e
  have hgc : Nat.gcd (x * c) M = c := by rw [hc, Nat.gcd_mul_right, hg, Nat.one_mul]
  unfold Fl
  rw [List.mem_map]
  refine ⟨x * c, ?_, ?_⟩
  · rw [List.mem_filter, List.mem_range]
    refine ⟨by rw [hc]; exact Nat.mul_lt_mul_of_pos_right hxy hc0, ?_⟩
    rw [hgc, hc, Nat.mul_div_cancel _ hc0]
    exact decide_eq_true hk2
  · rw [hgc, hc, Nat.mul_div_cancel _ hc0, Nat.mul_div_cancel _ hc0]
open Go.Shelf in
set_option maxHeartbeats 1000000 in
theorem orbit_in (n : Nat) (s t : ByteArray) (d : Int) (w : World) :
    CallsIn Fence.wide n Try.prog 8 #[.agg #[.bool false, .string s, .string t], .int .i64 d] w fun e w' =>
      e = .returned (.func (.func 16) #[] #[.pointer (some ⟨w.heap.size, 0, none⟩), .pointer (some ⟨w.heap.size + 1, 0, none⟩)]) ∧
      w' = (w.alloc (.cells #[.bool false, .string s, .string t] 24)).alloc (.cells #[.int .i64 d] 3) := by
  refine callsIn_of_wp Try.func8 rfl trivial ?_ rfl
  simp only [Try.ntmps8, List.size_toArray, List.length_cons, List.length_nil, Nat.reduceAdd, Nat.reduceSub, Array.replicate_succ, Array.replicate_zero, List.push_toArray, List.append_toArray, List.nil_append, List.cons_append]
  gi_wp2
  go_ret
  exact ⟨rfl, rfl⟩
end Go.Proofs.Ytacpakmglmfgnaa
