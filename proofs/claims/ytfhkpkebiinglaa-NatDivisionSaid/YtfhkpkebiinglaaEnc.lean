/-
  A number's bytes and its value.
-/
import Derived.Test.YtfhkpkebiinglaaDivx
namespace Go.Proofs.Ytfhkpkebiinglaa
open Go.RowKit

theorem enc_data (n : Nat) : (enc n).data.toList = (digs 256 n).reverse.map (fun d => UInt8.ofNat d) := by
  unfold enc strOfNums
  simp [List.map_map]
theorem enc_size (n : Nat) : (enc n).size = (digs 256 n).length := by
  show (enc n).data.size = _
  rw [← Array.length_toList, enc_data]; simp
theorem bytesR_enc (n : Nat) : bytesR (enc n) = digs 256 n := by
  unfold bytesR
  rw [enc_data, ← List.map_reverse, List.reverse_reverse, List.map_map]
  have : ∀ l : List Nat, (∀ d ∈ l, d < 256) → l.map (UInt8.toNat ∘ fun d => UInt8.ofNat d) = l := by
    intro l
    induction l with
    | nil => intro _; rfl
    | cons d l ih =>
      intro h
      rw [List.map_cons, ih fun x hx => h x (by simp [hx])]
      have := h d (by simp)
      simp [UInt8.toNat_ofNat', Nat.mod_eq_of_lt this]
  exact this _ (digs_lt (by omega) n)
theorem bval_enc (n : Nat) : bval (enc n) = n := by
  unfold bval
  rw [bytesR_enc, dval_digs (by omega)]
theorem bytes_ext {s t : ByteArray} (h : bytesR s = bytesR t) : s = t := by
  have h1 : s.data.toList.reverse = t.data.toList.reverse := by
    unfold bytesR at h
    exact (List.map_inj_right (fun a b e => UInt8.toNat_inj.1 e)).1 h
  have h2 := List.reverse_inj.1 h1
  cases s with | mk d => cases t with | mk e =>
  congr 1
  exact Array.toList_inj.1 h2
theorem enc_bval (s : ByteArray) (h : Ok s) : enc (bval s) = s := bytes_ext (by rw [bytesR_enc, ok_digs s h])
theorem ok_enc (n : Nat) (h : (digs 256 n).length ≤ 16384) : Ok (enc n) := by
  refine ⟨by rw [enc_size]; exact h, fun hp e => ?_⟩
  have hl := digs_getLast (B := 256) (by omega) n
  apply hl
  have h1 : bytesR (enc n) = digs 256 n := bytesR_enc n
  rw [← h1]
  unfold bytesR
  rw [List.getLast?_map, List.getLast?_reverse]
  have hx : (enc n)[0] = (enc n).data[0]'hp := rfl
  rw [hx, ← Array.getElem_toList] at e
  cases hd : (enc n).data.toList with
  | nil =>
    have : (enc n).data.toList.length = (enc n).size := by rw [Array.length_toList]; rfl
    rw [hd] at this
    simp at this
    omega
  | cons x l =>
    simp only [hd, List.getElem_cons_zero] at e
    simp [e]
/-- Of digits that are written out. -/
theorem enc_lit {n : Nat} (l : List Nat) (hl : ∀ d ∈ l, d < 256) (hz : l.getLast? ≠ some 0) (hv : dval 256 l = n) {s : ByteArray} (hs : bytesR s = l) : enc n = s := by
  refine bytes_ext ?_
  rw [bytesR_enc, hs, ← hv, digs_dval (by omega) l hl hz]
theorem ok_small (n : Nat) (h : n < 256 ^ 100) : Ok (enc n) ∧ endN n = .tuple #[.string (enc n), .int .i64 0] := by
  have h1 : (digs 256 n).length ≤ 100 := (digs_len (by omega) _ _).2 h
  refine ⟨ok_enc n (by omega), ?_⟩
  unfold endN endS endE
  rw [if_neg (by omega), if_neg (by omega)]
end Go.Proofs.Ytfhkpkebiinglaa
