/-
  The chain of bounds, in whole numbers: P sqrt (1 + (Q / P)^2), each step rounded outwards.
-/
import Ieee.Arith
namespace Go.Proofs.Ytoihdhmgjfoclaa

/-- What the numbers c = 2^104, d = (2^52 + 1)^2 and U are asked. -/
structure Cd (c d e U : Nat) : Prop where
  de : d = c + e
  c0 : 0 < c
  m : c * c * c + d * d * e + 1 ≤ c * d * d
  u : 4 * c * d * d + 4 * d * c * c + 4 * c * c * c ≤ U

theorem mid_low {c d e U T W : Nat} (h : Cd c d e U) (h2 : T * T * c ≤ (W * d + 2 * c) * U) (hW : W ≤ U) (hT : T ≤ U) :
    U * U * (c * c) + (T * d + 2 * c) * (T * d + 2 * c) ≤ d * d * (U * (U + W)) := by
  refine Nat.le_of_mul_le_mul_left ?_ h.c0
  have p1 := Nat.mul_le_mul_left (d * d) h2
  have p2 := Nat.mul_le_mul_left (d * d * e) (Nat.mul_le_mul_right U hW)
  have p3 := Nat.mul_le_mul_right (4 * d * c * c) hT
  have p4 := Nat.mul_le_mul_right U h.u
  have p5 := Nat.mul_le_mul_right (U * U) h.m
  have p6 : d * d * ((W * d) * U) = d * d * (W * c * U) + d * d * (W * e * U) := by rw [← Nat.mul_add, ← Nat.add_mul, ← Nat.mul_add, ← h.de]
  have p7 : 4 * c * c * c ≤ 4 * c * c * c * U := Nat.le_mul_of_pos_right _ (by
    have := h.u; have := Nat.mul_pos (Nat.mul_pos h.c0 h.c0) h.c0; have : 4 * c * c * c = 4 * (c * c * c) := by ac_rfl
    omega)
  clear h h2 hW hT
  grind
theorem low_chain {c d e U P Q T W S R Z : Nat} (h : Cd c d e U) (h1 : Q * U * c ≤ (T * d + 2 * c) * P) (h2 : T * T * c ≤ (W * d + 2 * c) * U) (h3 : (U + W) * c ≤ S * d)
    (h4 : S * U * (c * c) ≤ R * R * (d * d)) (h5 : P * R * c ≤ Z * d * U) (hW : W ≤ U) (hT : T ≤ U) (hU : 0 < U) :
    (P * P + Q * Q) * (c * c * c * c * c * c * c) ≤ Z * Z * (d * d * d * d * d * d * d) := by
  have m := mid_low h h2 hW hT
  refine Nat.le_of_mul_le_mul_right (c := U * U) ?_ (Nat.mul_pos hU hU)
  have q1 : Q * Q * (U * U) * (c * c) ≤ (T * d + 2 * c) * (T * d + 2 * c) * (P * P) := by
    calc Q * Q * (U * U) * (c * c) = (Q * U * c) * (Q * U * c) := by ac_rfl
      _ ≤ _ := Nat.mul_le_mul h1 h1
      _ = _ := by ac_rfl
  calc (P * P + Q * Q) * (c * c * c * c * c * c * c) * (U * U) = (U * U * (c * c) * (P * P) + Q * Q * (U * U) * (c * c)) * (c * c * c * c * c) := by
        rw [Nat.add_mul, Nat.add_mul, Nat.add_mul]; congr 1 <;> ac_rfl
    _ ≤ (U * U * (c * c) * (P * P) + (T * d + 2 * c) * (T * d + 2 * c) * (P * P)) * (c * c * c * c * c) := Nat.mul_le_mul_right _ (Nat.add_le_add_left q1 _)
    _ = (U * U * (c * c) + (T * d + 2 * c) * (T * d + 2 * c)) * (P * P) * (c * c * c * c * c) := by rw [← Nat.add_mul]
    _ ≤ d * d * (U * (U + W)) * (P * P) * (c * c * c * c * c) := Nat.mul_le_mul_right _ (Nat.mul_le_mul_right _ m)
    _ = (U + W) * c * (d * d * U * (P * P) * (c * c * c * c)) := by ac_rfl
    _ ≤ S * d * (d * d * U * (P * P) * (c * c * c * c)) := Nat.mul_le_mul_right _ h3
    _ = S * U * (c * c) * (d * d * d * (P * P) * (c * c)) := by ac_rfl
    _ ≤ R * R * (d * d) * (d * d * d * (P * P) * (c * c)) := Nat.mul_le_mul_right _ h4
    _ = (P * R * c) * (P * R * c) * (d * d * d * d * d) := by ac_rfl
    _ ≤ (Z * d * U) * (Z * d * U) * (d * d * d * d * d) := Nat.mul_le_mul_right _ (Nat.mul_le_mul h5 h5)
    _ = _ := by ac_rfl

/-- Above: X stands for Q U / P, at most U. -/
theorem mid_high {c d e U T W P Q : Nat} (h : Cd c d e U) (h1 : T * P * c ≤ Q * U * d + 2 * c * P) (h2 : W * U * c ≤ T * T * d + 2 * c * U) (hQ : Q ≤ P) :
    U * (U + W) * (P * P) * (c * c) ≤ d * d * (U * U) * (P * P + Q * Q) := by
  obtain ⟨Y, hY⟩ : ∃ Y, Y = Q * U := ⟨_, rfl⟩
  have e1 : d * d * (U * U) * (P * P + Q * Q) = d * d * (U * U * (P * P) + Y * Y) := by
    rw [hY, Nat.mul_add, Nat.mul_add]; congr 1 <;> ac_rfl
  rw [e1]
  have hYU : Y ≤ U * P := by rw [hY, Nat.mul_comm]; exact Nat.mul_le_mul_left U hQ
  rw [← hY] at h1
  refine Nat.le_of_mul_le_mul_left ?_ h.c0
  have hUp : 0 < U := by
    have := h.u; have := Nat.mul_pos (Nat.mul_pos h.c0 h.c0) h.c0; have : 4 * c * c * c = 4 * (c * c * c) := by ac_rfl
    omega
  have p1 := Nat.mul_le_mul_right (c * c * (P * P)) h2
  have p2 := Nat.mul_le_mul_left d (Nat.mul_le_mul h1 h1)
  have p3 := Nat.mul_le_mul_left (d * d * e) (Nat.mul_le_mul hYU hYU)
  have p4 := Nat.mul_le_mul_left (4 * c * d * d * P) hYU
  have p5 := Nat.mul_le_mul_right (U * U * (P * P)) h.m
  have p6 := Nat.mul_le_mul_right (U * (P * P)) h.u
  have p7 : d * d * d * (Y * Y) = d * d * c * (Y * Y) + d * d * e * (Y * Y) := by rw [← Nat.add_mul, ← Nat.mul_add, ← h.de]
  have p8 : 4 * c * c * d * (P * P) * 1 ≤ 4 * c * c * d * (P * P) * U := Nat.mul_le_mul_left _ hUp
  clear h h1 h2 hQ hY hYU e1 hUp
  grind
theorem high_chain {c d e U P Q T W S R Z : Nat} (h : Cd c d e U) (h1 : T * P * c ≤ Q * U * d + 2 * c * P) (h2 : W * U * c ≤ T * T * d + 2 * c * U) (h3 : S * c ≤ (U + W) * d)
    (h4 : R * R * (c * c) ≤ S * U * (d * d)) (h5 : Z * U * c ≤ P * R * d) (hQ : Q ≤ P) (hU : 0 < U) :
    Z * Z * (c * c * c * c * c * c * c) ≤ (P * P + Q * Q) * (d * d * d * d * d * d * d) := by
  have m := mid_high h h1 h2 hQ
  refine Nat.le_of_mul_le_mul_right (c := U * U) ?_ (Nat.mul_pos hU hU)
  calc Z * Z * (c * c * c * c * c * c * c) * (U * U) = (Z * U * c) * (Z * U * c) * (c * c * c * c * c) := by ac_rfl
    _ ≤ (P * R * d) * (P * R * d) * (c * c * c * c * c) := Nat.mul_le_mul_right _ (Nat.mul_le_mul h5 h5)
    _ = R * R * (c * c) * (P * P * (d * d) * (c * c * c)) := by ac_rfl
    _ ≤ S * U * (d * d) * (P * P * (d * d) * (c * c * c)) := Nat.mul_le_mul_right _ h4
    _ = S * c * (U * (d * d * d * d) * (P * P) * (c * c)) := by ac_rfl
    _ ≤ (U + W) * d * (U * (d * d * d * d) * (P * P) * (c * c)) := Nat.mul_le_mul_right _ h3
    _ = U * (U + W) * (P * P) * (c * c) * (d * d * d * d * d) := by ac_rfl
    _ ≤ d * d * (U * U) * (P * P + Q * Q) * (d * d * d * d * d) := Nat.mul_le_mul_right _ m
    _ = _ := by ac_rfl
theorem sq_le {a b : Nat} (h : a ≤ b) : a * a ≤ b * b := Nat.mul_le_mul h h
theorem low_sound {U P Q T W S R Z : Nat} (hU : 0 < U) (t1 : T * P ≤ Q * U) (w1 : W * U ≤ T * T) (s1 : S ≤ U + W) (r1 : R * R ≤ S * U) (z1 : Z * U ≤ P * R) : Z * Z ≤ P * P + Q * Q := by
  refine Nat.le_of_mul_le_mul_right (c := U * U) ?_ (Nat.mul_pos hU hU)
  calc Z * Z * (U * U) = Z * U * (Z * U) := by ac_rfl
    _ ≤ P * R * (P * R) := sq_le z1
    _ = R * R * (P * P) := by ac_rfl
    _ ≤ S * U * (P * P) := Nat.mul_le_mul_right _ r1
    _ ≤ (U + W) * U * (P * P) := Nat.mul_le_mul_right _ (Nat.mul_le_mul_right _ s1)
    _ = P * P * (U * U) + W * U * (P * P) := by rw [Nat.add_mul, Nat.add_mul]; congr 1; ac_rfl
    _ ≤ P * P * (U * U) + T * T * (P * P) := Nat.add_le_add_left (Nat.mul_le_mul_right _ w1) _
    _ = P * P * (U * U) + (T * P) * (T * P) := by congr 1; ac_rfl
    _ ≤ P * P * (U * U) + (Q * U) * (Q * U) := Nat.add_le_add_left (sq_le t1) _
    _ = _ := by rw [Nat.add_mul]; congr 1; ac_rfl
theorem high_sound {U P Q T W S R Z : Nat} (hU : 0 < U) (t1 : Q * U ≤ T * P) (w1 : T * T ≤ W * U) (s1 : U + W ≤ S) (r1 : S * U ≤ R * R) (z1 : P * R ≤ Z * U) : P * P + Q * Q ≤ Z * Z := by
  refine Nat.le_of_mul_le_mul_right (c := U * U) ?_ (Nat.mul_pos hU hU)
  calc (P * P + Q * Q) * (U * U) = P * P * (U * U) + (Q * U) * (Q * U) := by rw [Nat.add_mul]; congr 1; ac_rfl
    _ ≤ P * P * (U * U) + (T * P) * (T * P) := Nat.add_le_add_left (sq_le t1) _
    _ = P * P * (U * U) + T * T * (P * P) := by congr 1; ac_rfl
    _ ≤ P * P * (U * U) + W * U * (P * P) := Nat.add_le_add_left (Nat.mul_le_mul_right _ w1) _
    _ = (U + W) * U * (P * P) := by rw [Nat.add_mul, Nat.add_mul]; congr 1; ac_rfl
    _ ≤ S * U * (P * P) := Nat.mul_le_mul_right _ (Nat.mul_le_mul_right _ s1)
    _ ≤ R * R * (P * P) := Nat.mul_le_mul_right _ r1
    _ = P * R * (P * R) := by ac_rfl
    _ ≤ Z * U * (Z * U) := sq_le z1
    _ = _ := by ac_rfl
theorem two_sq (a : Nat) : 2 * a * (2 * a) = 4 * a * a := by rw [show 4 = 2 * 2 from rfl]; ac_rfl
theorem eight_sq (a : Nat) : 8 * a * (8 * a) = 64 * a * a := by rw [show 64 = 8 * 8 from rfl]; ac_rfl
theorem up_a {v2 v n d c e : Nat} (hK : v * d ≤ n) (h : v2 * c ≤ v * e + 2 * c) : v2 * d * c ≤ n * e + 2 * c * d := by
  calc v2 * d * c = v2 * c * d := by ac_rfl
    _ ≤ (v * e + 2 * c) * d := Nat.mul_le_mul_right _ h
    _ = v * d * e + 2 * c * d := by rw [Nat.add_mul]; congr 1; ac_rfl
    _ ≤ _ := Nat.add_le_add_right (Nat.mul_le_mul_right _ hK) _
theorem up_b {v2 v n d c e : Nat} (hK : v * d ≤ n) (h : v2 * c ≤ v * e) : v2 * d * c ≤ n * e := by
  calc v2 * d * c = v2 * c * d := by ac_rfl
    _ ≤ (v * e) * d := Nat.mul_le_mul_right _ h
    _ = v * d * e := by ac_rfl
    _ ≤ _ := Nat.mul_le_mul_right _ hK
theorem up_s {v2 v n c e : Nat} (hK : v * v ≤ n) (h : v2 * c ≤ v * e) : v2 * v2 * (c * c) ≤ n * (e * e) := by
  calc v2 * v2 * (c * c) = v2 * c * (v2 * c) := by ac_rfl
    _ ≤ v * e * (v * e) := sq_le h
    _ = v * v * (e * e) := by ac_rfl
    _ ≤ _ := Nat.mul_le_mul_right _ hK
theorem dn_a {v2 v n d c e : Nat} (hK : n ≤ v2 * d) (h : v2 * c ≤ v * e + 2 * c) : n * c ≤ (v * e + 2 * c) * d := by
  calc n * c ≤ v2 * d * c := Nat.mul_le_mul_right _ hK
    _ = v2 * c * d := by ac_rfl
    _ ≤ _ := Nat.mul_le_mul_right _ h
theorem dn_b {v2 v n d c e : Nat} (hK : n ≤ v2 * d) (h : v2 * c ≤ v * e) : n * c ≤ v * e * d := by
  calc n * c ≤ v2 * d * c := Nat.mul_le_mul_right _ hK
    _ = v2 * c * d := by ac_rfl
    _ ≤ _ := Nat.mul_le_mul_right _ h
theorem dn_s {v2 v n c e : Nat} (hK : n ≤ v2 * v2) (h : v2 * c ≤ v * e) : n * (c * c) ≤ v * v * (e * e) := by
  calc n * (c * c) ≤ v2 * v2 * (c * c) := Nat.mul_le_mul_right _ hK
    _ = v2 * c * (v2 * c) := by ac_rfl
    _ ≤ v * e * (v * e) := sq_le h
    _ = _ := by ac_rfl
/-- Near: both bounds are near the magnitude. -/
theorem near_of {c d M H L : Nat} (c0 : 0 < c) (h1 : H * H * (c * c * c * c * c * c * c) ≤ M * (d * d * d * d * d * d * d)) (h2 : M * (c * c * c * c * c * c * c) ≤ L * L * (d * d * d * d * d * d * d))
    (f g : Nat) (hfg : d * d * d * d * d * d * d * f ≤ g * (c * c * c * c * c * c * c)) : H * f ≤ L * g := by
  have hc : 0 < c * c * c * c * c * c * c := by repeat (first | exact c0 | refine Nat.mul_pos ?_ c0)
  generalize c * c * c * c * c * c * c = C at *
  generalize d * d * d * d * d * d * d = D at *
  have h3 : H * C * (H * C) ≤ L * D * (L * D) := by
    calc H * C * (H * C) = H * H * C * C := by ac_rfl
      _ ≤ M * D * C := Nat.mul_le_mul_right _ h1
      _ = M * C * D := by ac_rfl
      _ ≤ L * L * D * D := Nat.mul_le_mul_right _ h2
      _ = _ := by ac_rfl
  have h4 : H * C ≤ L * D := by
    rcases Nat.lt_or_ge (L * D) (H * C) with h | h
    · exfalso
      have := Nat.lt_of_le_of_lt (Nat.mul_le_mul_left (L * D) (Nat.le_of_lt h)) (Nat.mul_lt_mul_of_pos_right h (by omega))
      omega
    · exact h
  refine Nat.le_of_mul_le_mul_right (c := C) ?_ hc
  calc H * f * C = H * C * f := by ac_rfl
    _ ≤ L * D * f := Nat.mul_le_mul_right _ h4
    _ = L * (D * f) := by ac_rfl
    _ ≤ L * (g * C) := Nat.mul_le_mul_left _ hfg
    _ = _ := by ac_rfl
#print axioms high_chain
#print axioms low_chain
end Go.Proofs.Ytoihdhmgjfoclaa
