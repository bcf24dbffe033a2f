/-
  count at base 2, up to ten turns.
-/
import Derived.Test.YtacpakmglmfgnaaWn
import Derived.Test.YtacpakmglmfgnaaMo
import Derived.Test.YtacpakmglmfgnaaRa
namespace Go.Proofs.Ytacpakmglmfgnaa
open Go.RowKit

/-- The sum, up to m. -/
def csum (n : Nat) : Nat → Int
  | 0 => 0
  | m + 1 => csum n m + if n % (m + 1) = 0 then mob (n / (m + 1)) * (2 ^ (m + 1) - 1) else 0
theorem csum_succ (n m : Nat) : csum n (m + 1) = csum n m + if n % (m + 1) = 0 then mob (n / (m + 1)) * (2 ^ (m + 1) - 1) else 0 := rfl
def csumOk : Bool := (List.range 11).all fun n => (List.range 11).all fun m => decide (-4096 ≤ csum n m ∧ csum n m ≤ 4096) && (n == 0 || decide (0 < csum n n))
theorem csum_ok : csumOk = true := by decide +kernel
theorem csum_bd {n m : Nat} (hn : n ≤ 10) (hm : m ≤ 10) : (-4096 ≤ csum n m ∧ csum n m ≤ 4096) ∧ (0 < n → 0 < csum n n) := by
  have h := csum_ok
  unfold csumOk at h
  rw [List.all_eq_true] at h
  have h1 := h n (List.mem_range.2 (by omega))
  rw [List.all_eq_true] at h1
  have h2 := h1 m (List.mem_range.2 (by omega))
  rw [Bool.and_eq_true, Bool.or_eq_true] at h2
  refine ⟨of_decide_eq_true h2.1, fun h0 => ?_⟩
  rcases h2.2 with h3 | h3
  · exact absurd (beq_iff_eq.1 h3) (by omega)
  · exact of_decide_eq_true h3
theorem newint_mu (z : Int) (h1 : -1 ≤ z) (h2 : z ≤ 1) (W : World) :
    Calls Try.prog 22 #[.int .i64 z] W fun e w' => ∃ p neg y, e = .returned (.pointer (some ⟨p, 0, none⟩)) ∧ IntAt W.heap.size w'.heap.size w' p neg y ∧ sgn neg y = z ∧ y ≤ 1 ∧ Below W.heap.size W w' := by
  by_cases h : z = -1
  · subst h
    exact (newint_neg W).mono fun _ _ ⟨e1, e2, e3⟩ => ⟨_, _, _, e1, e2, rfl, Nat.le_refl _, e3⟩
  · obtain ⟨x, hx⟩ : ∃ x : Nat, z = x := ⟨z.toNat, by omega⟩
    subst hx
    exact (newint_any x (by omega) W).mono fun _ _ ⟨e1, e2, e3⟩ => ⟨_, _, _, e1, e2, rfl, by omega, e3⟩
theorem sgn_pos {neg : Bool} {x : Nat} {z : Int} (h : z = sgn neg x) (hz : 0 < z) : neg = false ∧ (x : Int) = z := by
  unfold sgn at h
  cases neg
  · exact ⟨rfl, by simp at h; omega⟩
  · simp at h; omega
theorem sgn_abs {neg : Bool} {x : Nat} {z : Int} {b : Nat} (h : z = sgn neg x) (h1 : -(b : Int) ≤ z) (h2 : z ≤ b) : x ≤ b := by
  unfold sgn at h
  cases neg <;> simp at h <;> omega
theorem IntZ.on {A B C : Nat} {w w' : World} {b : Nat} {z : Int} (h : IntZ A B w b z) (hb : Below C w w') (hC : B ≤ C) : IntZ A B w' b z := by
  obtain ⟨n, x, h1, h2⟩ := h
  exact ⟨n, x, h1.on hb hC, h2⟩
end Go.Proofs.Ytacpakmglmfgnaa
