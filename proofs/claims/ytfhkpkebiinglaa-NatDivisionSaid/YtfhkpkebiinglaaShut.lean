/-
  The walks of len and shut: a row of limbs made a number's bytes.
-/
import Derived.Test.YtfhkpkebiinglaaMem
import Derived.Test.YtfhkpkebiinglaaOpen
import Derived.Test.YtfhkpkebiinglaaShelf
import Derived.Lib.ItoaNum
import Derived.Laws.BytesArg
namespace Go.Proofs.Ytfhkpkebiinglaa
open Go.RowKit

/-- So many bits has a number. -/
def blen (n : Nat) : Nat := (digs 2 n).length
theorem blen_le (n k : Nat) : blen n ≤ k ↔ n < 2 ^ k := digs_len (by omega) n k
theorem bitLen_blen (x : Nat) (h : x < 4294967296) : Lib.bitLen x = blen x := by
  have key : ∀ k, Lib.bitLen x ≤ k ↔ x < 2 ^ k := by
    intro k
    by_cases h0 : x = 0
    · subst h0
      have e : Lib.bitLen 0 = 0 := by decide
      rw [e]; simp [Nat.two_pow_pos]
    · obtain ⟨h1, h2, h3⟩ := Lib.bitLenAux_bounds 64 x (by omega) h0
      constructor
      · intro hk
        exact Nat.lt_of_lt_of_le h3 (Nat.pow_le_pow_right (by omega) hk)
      · intro hk
        have : 2 ^ (Lib.bitLenAux 64 x - 1) < 2 ^ k := Nat.lt_of_le_of_lt h2 hk
        have := (Nat.pow_lt_pow_iff_right (by omega)).1 this
        show Lib.bitLenAux 64 x ≤ k
        omega
  have h1 := (key (blen x)).2 ((blen_le x _).1 (Nat.le_refl _))
  have h2 := (blen_le x (Lib.bitLen x)).2 ((key _).1 (Nat.le_refl _))
  omega
theorem blen_zero : blen 0 = 0 := rfl
/-- By its highest limb. -/
theorem blen_top (n : Nat) (hn : n ≠ 0) : blen n = 32 * ((digs 4294967296 n).length - 1) + blen ((digs 4294967296 n).getD ((digs 4294967296 n).length - 1) 0) := by
  have hβ : 2 ≤ 4294967296 := by omega
  have hv := dval_digs hβ n
  have hlt := digs_lt hβ n
  have hlast := digs_getLast hβ n
  have hne : digs 4294967296 n ≠ [] := fun h => hn ((digs_nil hβ).1 h)
  generalize digs 4294967296 n = L at *
  obtain ⟨k, hk⟩ : ∃ k, L.length = k + 1 := ⟨L.length - 1, by have := List.length_pos_iff.2 hne; omega⟩
  have hk1 : k < L.length := by omega
  rw [hk, Nat.add_sub_cancel]
  have hg : L.getD k 0 = L[k] := by simp [List.getD, hk1]
  rw [hg]
  have hx : L[k] ≠ 0 := by
    intro e
    apply hlast
    rw [List.getLast?_eq_getElem?, hk, Nat.add_sub_cancel, List.getElem?_eq_getElem hk1, e]
  have hval : n = dval 4294967296 (L.take k) + 4294967296 ^ k * L[k] := by
    rw [← dval_take_succ _ _ _ hk1, List.take_of_length_le (by omega)]
    exact hv.symm
  have hlow := dval_lt 4294967296 (L.take k) fun d hd => hlt d (List.mem_of_mem_take hd)
  rw [List.length_take, Nat.min_eq_left (by omega)] at hlow
  have hp : (4294967296 : Nat) ^ k = 2 ^ (32 * k) := by rw [Nat.pow_mul]
  rw [hp] at hval hlow
  generalize L[k] = x at *
  generalize dval 4294967296 (L.take k) = low at *
  have up : ∀ j, n < 2 ^ (32 * k + j) ↔ x < 2 ^ j := by
    intro j
    rw [hval, Nat.pow_add]
    constructor
    · intro h
      exact Nat.lt_of_mul_lt_mul_left (Nat.lt_of_le_of_lt (Nat.le_add_left _ _) h)
    · intro h
      calc low + 2 ^ (32 * k) * x < 2 ^ (32 * k) + 2 ^ (32 * k) * x := by omega
        _ = 2 ^ (32 * k) * (x + 1) := by rw [Nat.mul_add]; omega
        _ ≤ _ := Nat.mul_le_mul_left _ h
  have h1 : blen n ≤ 32 * k + blen x := (blen_le _ _).2 ((up _).2 ((blen_le x _).1 (Nat.le_refl _)))
  have h2 : 32 * k < blen n := by
    rcases Nat.lt_or_ge (32 * k) (blen n) with h | h
    · exact h
    · have := (blen_le n _).1 h
      have h3 := (up 0).1 (by simpa using this)
      omega
  have h3 : blen x ≤ blen n - 32 * k := (blen_le _ _).2 ((up _).1 (by
    rw [show 32 * k + (blen n - 32 * k) = blen n by omega]; exact (blen_le n _).1 (Nat.le_refl _)))
  omega
/-- So many bytes has a number. -/
theorem bytes_bits (n : Nat) : (digs 256 n).length = (blen n + 7) / 8 := by
  have h1 : ∀ k, (digs 256 n).length ≤ k ↔ blen n ≤ 8 * k := by
    intro k
    rw [digs_len (by omega), blen_le, Nat.pow_mul]
  have a := (h1 (digs 256 n).length).1 (Nat.le_refl _)
  have b := (h1 ((blen n + 7) / 8)).2 (by omega)
  omega

theorem len_any (ao : Option Addr) (n cap : Nat) (L : List Nat) (hn : L.length = n) (hL : ∀ d ∈ L, d < 4294967296) (hl : n ≤ 1000000) (w : World) (h : RowAt w .u32 ao cap L) :
    Calls Try.prog 77 #[.slice ao n cap] w fun e w' => e = .returned (.int .i64 (blen (dval 4294967296 L) : Nat)) ∧ w = w' := by
  have hle := digs_le (B := 4294967296) (by omega) L hL
  have htk := take_digs (B := 4294967296) (by omega) L hL
  have HB := Lib.hid (blen_top (dval 4294967296 L))
  have HN := Lib.hid (@digs_nil 4294967296 (by omega) (dval 4294967296 L))
  have HC := Lib.hid (fun W => cut_n ao n cap L hn hL W)
  have hlt2 := digs_lt (B := 4294967296) (by omega) (dval 4294967296 L)
  by_cases h0 : dval 4294967296 L = 0
  · have e0 : (digs 4294967296 (dval 4294967296 L)).length = 0 := by rw [h0]; rfl
    have HC2 := Lib.hid (HC.out w h)
    rw [e0] at HC2
    have hb0 : Hid (blen (dval 4294967296 L) = 0) := by show blen _ = 0; rw [h0]; rfl
    clear hle htk HC hlt2 h hL e0 h0 hn
    go_enter Try.func77, Try.ntmps77
    go_wp2_with (go_at_call 83; refine HC2.out.mono ?_; rintro e w' ⟨rfl, rfl⟩)
    go_ret
    exact ⟨by rw [hb0.out]; rfl, rfl⟩
  · have hb := HB.out h0
    have hne : digs 4294967296 (dval 4294967296 L) ≠ [] := fun e => h0 (HN.out.1 e)
    have hpos := List.length_pos_iff.2 hne
    have HC2 := Lib.hid (HC.out w h)
    generalize hD : digs 4294967296 (dval 4294967296 L) = D at *
    obtain ⟨b, hao, hbl, hcell⟩ := h.cell (D.length - 1) (by omega)
    have hel : L[D.length - 1]'(by omega) = D.getD (D.length - 1) 0 := by
      rw [getD_lt (by omega : D.length - 1 < D.length)]
      have : D[D.length - 1]'(by omega) = (L.take D.length)[D.length - 1]'(by rw [List.length_take]; omega) := by congr 1; exact htk.symm
      rw [this, List.getElem_take]
    have hxl : D.getD (D.length - 1) 0 < 4294967296 := by
      rw [getD_lt (by omega : D.length - 1 < D.length)]; exact hlt2 _ (List.getElem_mem _)
    rw [hel] at hcell
    generalize hx : D.getD (D.length - 1) 0 = x at *
    have HE := Lib.hid hb
    obtain ⟨m, hm⟩ : ∃ m, D.length = m + 1 := ⟨D.length - 1, by omega⟩
    rw [hm] at HC2 hcell HE hpos hle
    simp only [Nat.add_sub_cancel] at hcell HE
    have hm6 : m ≤ 1000000 := by omega
    have hq0 : ((m : Int) + 1 == 0) = false := by simp; omega
    have hq1 : (((m + 1 : Nat) : Int) == 0) = false := by simp; omega
    have hq2 : (m : Int) < ((m + 1 : Nat) : Int) := by omega
    have hxb : blen x ≤ 32 := (blen_le x 32).2 hxl
    have hbx : Lib.bitLen x ≤ 32 := by rw [bitLen_blen x hxl]; exact hxb
    have HX := Lib.hid (bitLen_blen x hxl)
    clear hxb
    subst hao
    clear hb hne HB HN htk HC hlt2 h hel h0 hD hx hn hm hpos hle hl hL
    go_enter Try.func77, Try.ntmps77
    go_wp2_with (first | (go_at_call 83; refine HC2.out.mono ?_; rintro e w' ⟨rfl, rfl⟩) | (go_at_call 88; refine (Try.bits_Len32 _ _ (by omega) (by omega)).mono ?_; rintro e w' ⟨rfl, hw⟩; have hw2 := hw.symm; subst hw2))
    go_ret
    exact ⟨by rw [HE.out, ← HX.out]; congr 1, rfl⟩

/-- A number's bytes, the highest first. -/
def enc (n : Nat) : ByteArray := strOfNums ((digs 256 n).reverse.map fun d : Nat => (d : Int))
theorem info5 : (Try.prog.info? 5).map (fun i => (i.zero, i.size, i.bytes)) = some (some (.int .u8 0), 1, 1) := by kernel_rfl

/-- The bytes laid so far, from the end on. -/
def laid (D : List Nat) (i : Nat) : List Nat := List.replicate (D.length - i) 0 ++ (D.take i).reverse
theorem laid_len (D : List Nat) (i : Nat) (h : i ≤ D.length) : (laid D i).length = D.length := by simp [laid]; omega
theorem laid_zero (D : List Nat) : laid D 0 = List.replicate D.length 0 := by simp [laid]
theorem laid_all (D : List Nat) : laid D D.length = D.reverse := by simp [laid]
theorem laid_step (D : List Nat) (i : Nat) (h : i < D.length) : (laid D i).set (D.length - 1 - i) D[i] = laid D (i + 1) := by
  unfold laid
  have e : D.length - i = (D.length - (i + 1)) + 1 := by omega
  rw [e, List.replicate_succ', List.take_succ_eq_append_getElem h, List.reverse_append, List.append_assoc]
  have e2 : D.length - 1 - i = (List.replicate (D.length - (i + 1)) 0).length := by rw [List.length_replicate]; omega
  rw [e2, List.set_append_right _ _ (Nat.le_refl _), Nat.sub_self]
  rfl
/-- A byte out of a limb. -/
theorem byte_of (L : List Nat) (hL : ∀ d ∈ L, d < 4294967296) (i : Nat) (hi : i / 4 < L.length) (hd : i < (digs 256 (dval 4294967296 L)).length) :
    L[i / 4] / 2 ^ (8 * (i % 4)) % 256 = (digs 256 (dval 4294967296 L))[i] := by
  have h1 := dval_get L hL (i / 4)
  have h2 := dval_get (digs 256 (dval 4294967296 L)) (digs_lt (by omega) _) i
  rw [getD_lt hi] at h1
  rw [getD_lt hd, dval_digs (by omega)] at h2
  rw [h1, h2]
  generalize dval 4294967296 L = N
  have e1 : (2 : Nat) ^ (8 * (i % 4)) = 256 ^ (i % 4) := by rw [Nat.pow_mul]
  have e2 : (256 : Nat) ^ i = 4294967296 ^ (i / 4) * 256 ^ (i % 4) := by rw [Nat.mul_comm, pow_split]
  have e3 : (4294967296 : Nat) = 256 ^ (i % 4) * (256 * 256 ^ (3 - i % 4)) := by
    rw [← Nat.pow_succ', ← Nat.pow_add, show i % 4 + (3 - i % 4 + 1) = 4 by omega]
  rw [e1, e2, ← Nat.div_div_eq_div_mul]
  generalize N / 4294967296 ^ (i / 4) = M
  rw [e3, Nat.mod_mul_right_div_self, Nat.mod_mul_right_mod]

set_option maxHeartbeats 400000 in
theorem shut_long (ao : Option Addr) (n cap : Nat) (L : List Nat) (hn : L.length = n) (hL : ∀ d ∈ L, d < 4294967296) (hl : n ≤ 1000000) (w : World) (h : RowAt w .u32 ao cap L) (hlong : 16384 < (digs 256 (dval 4294967296 L)).length) :
    Calls Try.prog 61 #[.slice ao n cap] w fun e w' => e = .returned (.tuple #[.string ⟨#[]⟩, .int .i64 4]) ∧ w = w' := by
  have HL := Lib.hid (len_any ao n cap L hn hL hl w h)
  have hb := bytes_bits (dval 4294967296 L)
  have hbl0 : blen (dval 4294967296 L) ≤ 32 * L.length := (blen_le _ _).2 (by rw [Nat.pow_mul]; exact dval_lt 4294967296 L hL)
  have hbl : blen (dval 4294967296 L) ≤ 32000000 := by omega
  clear hbl0
  generalize blen (dval 4294967296 L) = bl at *
  have hg : 16384 < (bl + 7) / 8 := by omega
  have hg2 : (16384 : Int) < ((bl : Int) + 7) / 8 := by omega
  clear hb hlong h hL hn
  go_enter Try.func61, Try.ntmps61
  go_wp2_with (go_at_call 77; refine HL.out.mono ?_; rintro e w' ⟨rfl, rfl⟩)
  go_ret2
  exact ⟨rfl, rfl⟩

set_option maxRecDepth 20000 in
set_option maxHeartbeats 1000000 in
theorem shut_any (ao : Option Addr) (n cap : Nat) (L : List Nat) (hn : L.length = n) (hL : ∀ d ∈ L, d < 4294967296) (hl : n ≤ 1000000) (w : World) (h : RowAt w .u32 ao cap L) (hshort : (digs 256 (dval 4294967296 L)).length ≤ 16384) :
    Calls Try.prog 61 #[.slice ao n cap] w fun e w' => e = .returned (.tuple #[.string (enc (dval 4294967296 L)), .int .i64 0]) ∧ Below w.heap.size w w' := by
  obtain ⟨i0, hi0, hz0, hz1, hz2⟩ := info_parts info5
  have HL := Lib.hid (len_any ao n cap L hn hL hl w h)
  have hb := bytes_bits (dval 4294967296 L)
  have hk4 : (digs 256 (dval 4294967296 L)).length ≤ 4 * L.length := by
    rw [digs_len (by omega)]
    have := dval_lt 4294967296 L hL
    rwa [Nat.pow_mul]
  have BO := Lib.hid (byte_of L hL)
  have RL := Lib.hid h
  have ENC : Hid (enc (dval 4294967296 L) = strOfNums ((digs 256 (dval 4294967296 L)).reverse.map fun d : Nat => (d : Int))) := rfl
  generalize digs 256 (dval 4294967296 L) = D at *
  have hq : ((blen (dval 4294967296 L) : Int) + 7) / 8 = ((D.length : Nat) : Int) := by omega
  have hbl : blen (dval 4294967296 L) ≤ 200000 := by omega
  generalize blen (dval 4294967296 L) = bl at *
  have HK4 := Lib.hid hk4
  have HN := Lib.hid hn
  have hs2 : ((D.length : Nat) : Int) ≤ 16384 := by omega
  have HSH := Lib.hid hshort
  clear hb h hL hk4 hn hshort
  go_enter Try.func61, Try.ntmps61
  go_wp2_with (first | (go_at_call 77; refine HL.out.mono ?_; rintro e w' ⟨rfl, rfl⟩) | (at_make; refine wpList_make_full _ rfl _ _ 75 rfl w.heap.size 5 i0 (.int .u8 0) 1 Try.underlying75 hi0 hz0 hz1 .i64 .i64 _ _ D.length rfl rfl (by go_num) (by go_num) (by rw [hz2]; omega) (by unfold maxLen; omega) (Nat.le_refl _) ?_; intro w1 hown1 hgrow1))
  have hO : Own w 5 .u8 w.heap.size (laid D 0) w1 := by
    refine ⟨?_, (Below.refl _ _).grown hgrow1 (Nat.le_refl _) (fun k h => by cases h)⟩
    rw [cu_zero] at hown1
    rw [laid_len _ _ (Nat.zero_le _), laid_zero]; exact hown1
  have HO := Lib.hid hO
  clear hO hown1 hgrow1 hi0 hz0 hz1 hz2
  go_loopw [16] (fun vi wr => ∃ i, i ≤ D.length ∧ vi = .int .i64 ((i : Nat) : Int) ∧ Own w 5 .u8 w.heap.size (laid D i) wr) (fun vi _ => D.length - (intOf vi).toNat)
  case atStart => exact ⟨0, Nat.zero_le _, rfl, HO.out⟩
  case round =>
    obtain ⟨i, hi, rfl, ho⟩ := hrel
    have HW := Lib.hid ho
    clear ho
    by_cases hlt : i < D.length
    · have hj : i / 4 < L.length := by have := HK4.out; omega
      obtain ⟨ba, rfl, hba, hca⟩ := ((RL.out.below HW.out.below (Nat.le_refl _)).cell (i / 4) hj)
      have HB := Lib.hid (BO.out i hj hlt)
      generalize L[i / 4] = x at hca HB
      have hm1 : D.length - 1 - i < (laid D i).length := by rw [laid_len _ _ hi]; omega
      have hfz := HW.out.frozen (D.length - 1 - i)
      have hcell := HW.out.cell (D.length - 1 - i) hm1
      generalize (laid D i)[D.length - 1 - i] = o at hcell
      have hx0 : (0 : Int) ≤ (i : Int) / 4 := by omega
      have hx1 : (i : Int) / 4 < (n : Int) := by have := HN.out; omega
      have hx2 : ((i : Int) / 4).toNat = i / 4 := by omega
      go_wp2
      go_roundw
      case rel =>
        refine ⟨i + 1, by omega, by go_num, ?_⟩
        rw [← laid_step D i hlt, ← HB.out]
        exact HW.out.store (D.length - 1 - i) (x / 2 ^ (8 * (i % 4)) % 256)
      case measure => simp [intOf]; omega
    · have hie : i = D.length := by omega
      subst hie
      have HCV : Hid ((convert 75 22 (.slice (some ⟨w.heap.size, 0, none⟩) D.length D.length)).run Try.prog wr = .ok (.string (enc (dval 4294967296 L))) wr) := by
        show _ = _
        rw [ENC.out]
        refine run_convert_bytes_arg wr 75 5 Try.underlying75 Try.underlying5 w.heap.size 0 D.length D.length _ (by simp) ?_ 22 Try.underlying22
        intro j hj
        have h1 : j < (laid D D.length).length := by rw [laid_len _ _ (Nat.le_refl _)]; exact hj
        have hc := HW.out.cell j h1
        rw [Nat.zero_add, hc]
        simp [laid_all, List.getD, hj]
      go_wp2_with (rw [HCV.out])
      go_ret2
      exact ⟨rfl, HW.out.below⟩
end Go.Proofs.Ytfhkpkebiinglaa
