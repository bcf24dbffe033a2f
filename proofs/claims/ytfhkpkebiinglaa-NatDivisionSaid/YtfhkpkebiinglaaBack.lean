/-
  Text and Read: there and back.
-/
import Derived.Test.YtfhkpkebiinglaaRdw
namespace Go.Proofs.Ytfhkpkebiinglaa
open Go.RowKit

theorem bytesR_str (L : List Nat) (hL : ∀ d ∈ L, d < 256) : bytesR (strOfNums (L.reverse.map fun d : Nat => (d : Int))) = L := by
  have : (strOfNums (L.reverse.map fun d : Nat => (d : Int))).data.toList = L.reverse.map (fun d => UInt8.ofNat d) := by
    unfold strOfNums
    simp [List.map_map]
  unfold bytesR
  rw [this, ← List.map_reverse, List.reverse_reverse, List.map_map]
  have h2 : ∀ l : List Nat, (∀ d ∈ l, d < 256) → l.map (UInt8.toNat ∘ fun d => UInt8.ofNat d) = l := by
    intro l
    induction l with
    | nil => intro _; rfl
    | cons d l ih =>
      intro h
      rw [List.map_cons, ih fun x hx => h x (by simp [hx])]
      have := h d (by simp)
      simp [UInt8.toNat_ofNat', Nat.mod_eq_of_lt this]
  exact h2 L hL
theorem up_lt (L : List Nat) (hL : ∀ d ∈ L, d < 10) : ∀ d ∈ up L, d < 256 := by
  intro d hd
  simp only [up, List.mem_map] at hd
  obtain ⟨x, hx, rfl⟩ := hd
  have := hL x hx
  omega
theorem bytesR_dec {N : Nat} (h : N ≠ 0) : bytesR (dec N) = up (digs 10 N) := by
  rw [dec_eq h]
  exact bytesR_str _ (up_lt _ (digs_lt (by omega) N))
theorem tdig_up {s : ByteArray} {L : List Nat} (h : bytesR s = up L) : tdig s = L := by
  unfold tdig
  rw [h]
  unfold up
  rw [List.map_map]
  have : ((fun x : Nat => x - 48) ∘ fun x => x + 48) = id := by funext x; simp
  rw [this, List.map_id]
theorem sm_lt_pow {N : Nat} (K : Nat) (hK : K = 16384) (h : Sm N) : N < 256 ^ K := by
  unfold Sm at h
  rw [← hK] at h
  exact (digs_len (by omega) _ _).1 h
theorem dec_digits {N : Nat} (hs : Sm N) : DigOk (dec N) ∧ (dec N).size ≤ 49152 ∧ tval (dec N) = N := by
  by_cases h0 : N = 0
  · subst h0
    rw [dec_zero]
    refine ⟨⟨by decide, fun h => absurd h (by decide), fun i h => ?_⟩, by decide, by decide⟩
    have hi : i = 0 := by
      have : i < 1 := h
      omega
    subst hi
    exact ⟨Nat.le_refl 48, (by decide : (48 : Nat) ≤ 57)⟩
  · have hb := bytesR_dec h0
    have hlt := digs_lt (B := 10) (by omega) N
    have hlen : (dec N).size = (digs 10 N).length := by rw [← bytesR_len, hb, up_len]
    have hne : digs 10 N ≠ [] := fun e => h0 ((digs_nil (by omega)).1 e)
    have hpos := List.length_pos_iff.2 hne
    refine ⟨⟨by omega, fun _ h => ?_, fun i h => ?_⟩, ?_, ?_⟩
    · have h1 : (dec N).size - 1 < (bytesR (dec N)).length := by rw [bytesR_len]; omega
      have h2 := bytesR_get (dec N) ((dec N).size - 1) h1 0 (by omega) h
      have h3 : (bytesR (dec N))[(dec N).size - 1] = (digs 10 N)[(digs 10 N).length - 1]'(by omega) + 48 := by
        have : (bytesR (dec N))[(dec N).size - 1] = (up (digs 10 N))[(digs 10 N).length - 1]'(by rw [up_len]; omega) := by
          congr 1
          · omega
        rw [this, up_get _ _ _ (by omega)]
      have h4 := digs_getLast (B := 10) (by omega) N
      rw [List.getLast?_eq_getElem?, List.getElem?_eq_getElem (by omega)] at h4
      have h5 : (digs 10 N)[(digs 10 N).length - 1]'(by omega) ≠ 0 := fun e => h4 (by rw [e])
      omega
    · obtain ⟨j, hj⟩ : ∃ j, j = (dec N).size - 1 - i := ⟨_, rfl⟩
      have h1 : j < (bytesR (dec N)).length := by rw [bytesR_len]; omega
      have h2 := bytesR_get (dec N) j h1 i (by omega) h
      have hmem : ∀ d ∈ bytesR (dec N), d ∈ up (digs 10 N) := fun d hd => by rw [hb] at hd; exact hd
      have h3 := hmem _ (List.getElem_mem h1)
      simp only [up, List.mem_map] at h3
      obtain ⟨x, hx, hxe⟩ := h3
      have := hlt x hx
      omega
    · rw [hlen]
      obtain ⟨K, hK⟩ : ∃ K, K = 16384 := ⟨_, rfl⟩
      have h1 := (sm_lt_pow K hK hs)
      have h2 : 256 ^ K ≤ 10 ^ (3 * K) := by
        rw [Nat.pow_mul]; exact Nat.pow_le_pow_left (by omega) K
      have h3 : (digs 10 N).length ≤ 3 * K := (digs_len (by omega) _ _).2 (by omega)
      omega
    · unfold tval
      rw [tdig_up hb, dval_digs (by omega)]
theorem dec_back {s : ByteArray} (h : DigOk s) : dec (tval s) = s := by
  have hall : ∀ d ∈ bytesR s, 48 ≤ d ∧ d ≤ 57 := by
    intro d hd
    obtain ⟨i, hi, rfl⟩ := List.getElem_of_mem hd
    have hi2 : i < s.size := by rw [bytesR_len] at hi; exact hi
    rw [bytesR_get s i hi (s.size - 1 - i) rfl (by omega)]
    exact h.all _ (by omega)
  have hup : up (tdig s) = bytesR s := by
    unfold up tdig
    rw [List.map_map]
    have : ∀ l : List Nat, (∀ d ∈ l, 48 ≤ d ∧ d ≤ 57) → l.map ((fun x => x + 48) ∘ fun x => x - 48) = l := by
      intro l
      induction l with
      | nil => intro _; rfl
      | cons d l ih =>
        intro hl
        rw [List.map_cons, ih fun x hx => hl x (by simp [hx])]
        have := hl d (by simp)
        simp only [Function.comp]
        rw [show d - 48 + 48 = d by omega]
    exact this _ hall
  have hlt : ∀ d ∈ tdig s, d < 10 := by
    intro d hd
    simp only [tdig, List.mem_map] at hd
    obtain ⟨x, hx, rfl⟩ := hd
    have := hall x hx
    omega
  have hne := h.ne
  by_cases hz : (tdig s).getLast? = some 0
  · -- a leading nought: the text is "0"
    have h1 : s.size - 1 < (bytesR s).length := by rw [bytesR_len]; omega
    have h2 := bytesR_get s (s.size - 1) h1 0 (by omega) (by omega)
    have h3 : (tdig s)[s.size - 1]'(by rw [tdig_len]; omega) = 0 := by
      rw [List.getLast?_eq_getElem?, tdig_len, List.getElem?_eq_getElem (by rw [tdig_len]; omega)] at hz
      exact Option.some.inj hz
    have h4 : (bytesR s)[s.size - 1] = 48 := by
      have e : (bytesR s)[s.size - 1] = (up (tdig s))[s.size - 1]'(by rw [up_len, tdig_len]; omega) := by congr 1; exact hup.symm
      rw [e, up_get _ _ _ (by rw [tdig_len]; omega), h3]
    have hsz : s.size = 1 := by
      rcases Nat.lt_or_ge 1 s.size with h5 | h5
      · exact absurd (by omega) (h.lead h5 (by omega))
      · omega
    have hb : bytesR s = [48] := by
      apply List.ext_getElem
      · rw [bytesR_len, hsz]; rfl
      · intro i hi1 hi2
        have : i = 0 := by simpa using hi2
        subst this
        have e : (bytesR s)[0] = (bytesR s)[s.size - 1] := by congr 1; omega
        rw [e, h4]; rfl
    have hv : tval s = 0 := by unfold tval tdig; rw [hb]; rfl
    rw [hv, dec_zero]
    exact bytes_ext (by rw [hb]; rfl)
  · have hd := digs_dval (B := 10) (by omega) (tdig s) hlt hz
    have hv : tval s ≠ 0 := fun e => by
      have h0 : tdig s = [] := by rw [← hd]; unfold tval at e; rw [e]; rfl
      have := tdig_len s
      rw [h0] at this
      simp at this
      omega
    refine bytes_ext ?_
    rw [bytesR_dec hv]
    unfold tval
    rw [hd, hup]
theorem compared_any (m n : Nat) (w : World) :
    Calls Try.prog 57 #[.int .u64 (m : Int), .int .u64 (n : Int)] w fun e w' => e = .returned (.int .i64 (cmpN m n)) ∧ w = w' := by
  by_cases h1 : m < n
  · rw [cmpN_lt h1]
    go_enter Try.func57, Try.ntmps57
    go_wp2
    go_ret
    exact ⟨rfl, rfl⟩
  · by_cases h2 : n < m
    · have : cmpN m n = 1 := by unfold cmpN; rw [if_neg h1, if_pos h2]
      rw [this]
      go_enter Try.func57, Try.ntmps57
      go_wp2
      go_ret
      exact ⟨rfl, rfl⟩
    · have : cmpN m n = 0 := by unfold cmpN; rw [if_neg h1, if_neg h2]
      rw [this]
      go_enter Try.func57, Try.ntmps57
      go_wp2
      go_ret
      exact ⟨rfl, rfl⟩
end Go.Proofs.Ytfhkpkebiinglaa
