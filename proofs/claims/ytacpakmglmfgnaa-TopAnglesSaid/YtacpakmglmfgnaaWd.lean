/-
  Wide's whole numbers below 2^32: out of bytes.
-/
import Derived.Test.YtacpakmglmfgnaaWc
import Derived.Test.YtacpakmglmfgnaaTg
import Derived.Laws.IdiomStrings
import Derived.Laws.AppendOwn
namespace Go.Proofs.Ytacpakmglmfgnaa
open Go.RowKit

/-- The number of the first i bytes, at their place. -/
def msb (s : ByteArray) (i : Nat) : Nat := dval 256 ((bytesR s).drop (s.size - i)) * 256 ^ (s.size - i)
theorem msb_zero (s : ByteArray) : msb s 0 = 0 := by
  unfold msb
  rw [List.drop_of_length_le (by rw [bytesR_len]; omega)]
  simp [dval]
theorem msb_all (s : ByteArray) : msb s s.size = bval s := by
  unfold msb bval
  simp
theorem msb_step (s : ByteArray) (i : Nat) (h : i < s.size) (m : Nat) (hm : m = s.size - 1 - i) :
    ∃ D, msb s i = D * 256 ^ (m + 1) ∧ msb s (i + 1) = s[i].toNat * 256 ^ m + D * 256 ^ (m + 1) := by
  have hml : m < (bytesR s).length := by rw [bytesR_len]; omega
  refine ⟨dval 256 ((bytesR s).drop (m + 1)), ?_, ?_⟩
  · unfold msb; rw [show s.size - i = m + 1 by omega]
  · unfold msb
    rw [show s.size - (i + 1) = m by omega, List.drop_eq_getElem_cons hml, bytesR_get s m hml i (by omega) h]
    simp only [dval]
    rw [Nat.add_mul, Nat.pow_succ, Nat.mul_comm 256 (dval _ _), Nat.mul_assoc, Nat.mul_comm 256]
theorem msb_lt (s : ByteArray) (hs : s.size ≤ 4) (i : Nat) (h : i ≤ s.size) : msb s i < 4294967296 := by
  unfold msb
  have h1 := dval_lt 256 ((bytesR s).drop (s.size - i)) (fun d hd => bytesR_lt s d (List.mem_of_mem_drop hd))
  rw [List.length_drop, bytesR_len, show s.size - (s.size - i) = i by omega] at h1
  have h2 : dval 256 ((bytesR s).drop (s.size - i)) * 256 ^ (s.size - i) < 256 ^ i * 256 ^ (s.size - i) := Nat.mul_lt_mul_of_pos_right h1 (Nat.pow_pos (by omega))
  rw [← Nat.pow_add, show i + (s.size - i) = s.size by omega] at h2
  exact Nat.lt_of_lt_of_le h2 (Nat.pow_le_pow_right (by omega) hs)
theorem msb_or (D b m : Nat) (hb : b < 256) (h : D * 256 ^ (m + 1) < 4294967296) (hm : m < 4) : bits .or .u32 ((D * 256 ^ (m + 1) : Nat) : Int) ((b : Int) % 4294967296 * 2 ^ (8 * m) % 4294967296) = ((b * 256 ^ m + D * 256 ^ (m + 1) : Nat) : Int) := by
  have e8 : ∀ k, (256 : Nat) ^ k = 2 ^ (8 * k) := fun k => by rw [show (256 : Nat) = 2 ^ 8 by decide, ← Nat.pow_mul]
  have hlo : b * 256 ^ m < 2 ^ (8 * (m + 1)) := by
    rw [← e8, Nat.pow_succ, Nat.mul_comm]
    exact Nat.mul_lt_mul_of_pos_left hb (Nat.pow_pos (by omega))
  have h32 : b * 256 ^ m < 4294967296 := Nat.lt_of_lt_of_le hlo (by
    have : (2 : Nat) ^ (8 * (m + 1)) ≤ 2 ^ 32 := Nat.pow_le_pow_right (by omega) (by omega)
    simpa using this)
  have e1 : (b : Int) % 4294967296 * 2 ^ (8 * m) % 4294967296 = ((b * 256 ^ m : Nat) : Int) := by
    rw [e8] at h32 ⊢
    have : ((b * 2 ^ (8 * m) : Nat) : Int) = (b : Int) * 2 ^ (8 * m) := by simp
    have hbm : (b : Int) % 4294967296 = b := by omega
    rw [hbm, ← this]
    omega
  rw [e1, bits_or32 _ _ h h32, Nat.or_comm, e8 (m + 1), or_low _ _ _ hlo]
/-- A row of bytes that is read. -/
structure BytesAt (w : World) (g : Nat) (s : ByteArray) : Prop where
  lt : g < w.heap.size
  c : ∀ i (h : i < s.size), w.cell? ⟨g, i, none⟩ = some (.int .u8 (s[i].toNat : Nat))
theorem BytesAt.on {w w' : World} {g : Nat} {s : ByteArray} (h : BytesAt w g s) (hb : Below w.heap.size w w') : BytesAt w' g s :=
  ⟨Nat.lt_of_lt_of_le h.lt hb.size, fun i hi => (hb.cell (p := ⟨g, i, none⟩) h.lt).trans (h.c i hi)⟩
/-- An own row, cut. -/
theorem dig_cut {w0 w : World} {g x : Nat} {L : List Nat} (h : Own w0 84 .u32 g L w) (hL : ∀ d ∈ L, d < 4294967296) (hv : dval 4294967296 L = x) (hx : x < 4294967296) (n : Nat) (hn : n = L.length) :
    Calls Try.prog 54 #[.slice (some ⟨g, 0, none⟩) n n] w fun e w' => ∃ v, e = .returned v ∧ Dig g (g + 1) w v x ∧ w' = w := by
  subst hn
  obtain ⟨_, hr⟩ := own_row h.own
  exact (wcut_any _ _ L hL w hr).mono fun e w' ⟨e1, e2⟩ => ⟨_, e1, Dig.of_row hr hL hv hx (by intro b e; cases e; omega), e2.symm⟩
theorem dval_rep (B n : Nat) : dval B (List.replicate n 0) = 0 := by
  induction n with
  | zero => rfl
  | succ n ih => rw [List.replicate_succ]; simp [dval, ih]
theorem dval_one (B V n : Nat) : dval B (V :: List.replicate n 0) = V := by simp [dval, dval_rep]
theorem one_lt {V n : Nat} (h : V < 4294967296) : ∀ d ∈ V :: List.replicate n 0, d < 4294967296 := by
  intro d hd
  rcases List.mem_cons.1 hd with rfl | hd
  · exact h
  · rw [(List.mem_replicate.1 hd).2]; omega
set_option maxRecDepth 20000 in
theorem setbytes_any (z g cap : Nat) (s : ByteArray) (hs : s.size ≤ 4) (hc : s.size ≤ cap) (hc2 : cap ≤ maxLen) (w : World) (hz : Rec w z) (hg : BytesAt w g s) :
    Calls Try.prog 56 #[.pointer (some ⟨z, 0, none⟩), .slice (some ⟨g, 0, none⟩) s.size cap] w fun e w' => e = .returned (.pointer (some ⟨z, 0, none⟩)) ∧ IntAt z w'.heap.size w' z false (bval s) ∧ Below z w w' := by
  obtain ⟨i0, hi0, hz0, hz1, hz2⟩ := info_parts info91
  unfold maxLen at hc2
  have HG := Lib.hid hg
  have HZ := Lib.hid hz
  clear hg hz
  go_enter Try.func56, Try.ntmps56
  go_wp2_with (first | (at_make; refine wpList_make_full _ rfl _ _ 69 rfl w.heap.size 84 i0 (.int .u32 0) 1 Try.underlying69 hi0 hz0 hz1 .i64 .i64 _ _ (s.size / 4 + 1) rfl rfl (by go_num) (by go_num) (by rw [hz2]; omega) (by unfold maxLen; omega) (Nat.le_refl _) ?_; intro w1 hown1 hgrow1))
  have hO : Own w 84 .u32 w.heap.size (0 :: List.replicate (s.size / 4) 0) w1 := by
    refine ⟨?_, (Below.refl _ _).grown hgrow1 (Nat.le_refl _) (fun k h => by cases h)⟩
    rw [cu_zero] at hown1
    rw [show (0 :: List.replicate (s.size / 4) 0 : List Nat) = List.replicate (s.size / 4 + 1) 0 from rfl, List.length_replicate]; exact hown1
  have HO := Lib.hid hO
  clear hO hown1 hgrow1 hi0 hz0 hz1 hz2
  go_loopw [16] (fun vi wr => ∃ i V : Nat, i ≤ s.size ∧ vi = .int .i64 ((i : Nat) : Int) ∧ Hid (V = msb s i) ∧ Own w 84 .u32 w.heap.size (V :: List.replicate (s.size / 4) 0) wr) (fun vi _ => s.size - (intOf vi).toNat)
  case atStart => exact ⟨0, 0, Nat.zero_le _, rfl, (msb_zero s).symm, HO.out⟩
  case round =>
    obtain ⟨i, V, hi, rfl, HV, ho⟩ := hrel
    have HW := Lib.hid ho
    clear ho
    by_cases hlt : i < s.size
    · obtain ⟨m, hmi⟩ : ∃ m, m = s.size - 1 - i := ⟨_, rfl⟩
      have hVl : V < 4294967296 := by rw [HV.out]; exact msb_lt s hs i hi
      have HM := Lib.hid (msb_step s i hlt m hmi)
      have hm4 : m < 4 := by omega
      have em : (s.size : Int) - 1 - i = m := by omega
      clear hmi
      have hcell := HW.out.cell 0 (by simp)
      have hfz := HW.out.frozen 0
      have HST := Lib.hid (fun d => HW.out.store 0 d)
      have hcell2 : (V :: List.replicate (s.size / 4) 0)[0] = V := rfl
      rw [hcell2] at hcell
      have HGW := Lib.hid (HG.out.on HW.out.below)
      have hb := HGW.out.c i hlt
      have hgl := HGW.out.lt
      clear hcell2
      have hx0 : (m : Int) / 4 = 0 := by omega
      have hx1 : (m : Int) % 4 = m := by omega
      have hx3 : 0 < s.size / 4 + 1 := by omega
      go_wp2
      go_roundw
      case rel =>
        obtain ⟨D, e1, e2⟩ := HM.out
        have hV : V = D * 256 ^ (m + 1) := HV.out.trans e1
        refine ⟨i + 1, _, hlt, by go_num, e2.symm, ?_⟩
        rw [hV, Nat.mul_comm m 8, msb_or D _ m s[i].toNat_lt (by rw [← hV]; exact hVl) hm4]
        exact HST.out _
      case measure => simp [intOf]; omega
    · have hie : i = s.size := by omega
      subst hie
      have hVx : V = bval s := HV.out.trans (msb_all s)
      have hVl : V < 4294967296 := by rw [HV.out]; exact msb_lt s hs _ (Nat.le_refl _)
      have HC := Lib.hid (dig_cut HW.out (one_lt hVl) (dval_one _ _ _) hVl (s.size / 4 + 1) (by simp))
      have hbl := HW.out.below
      have hlt9 : w.heap.size < wr.heap.size := own_lt HW.out.own _ rfl
      have HZ9 := Lib.hid (HZ.out.on hbl HZ.out.lt)
      have hzl := HZ.out.lt
      have HL := Lib.hid fun v hd => laid_any z false v V w.heap.size (w.heap.size + 1) z wr HZ9.out hd hlt9 (hd.av (.inr hzl)) (Nat.le_refl _) (Nat.le_of_lt hzl)
      have HBL := Lib.hid hbl
      have HVX := Lib.hid hVx
      clear hbl hVx
      go_wp2_with (first | (go_at_call 54; refine HC.out.mono ?_; rintro e w1 ⟨v, rfl, D1, rfl⟩) | (go_at_call 50; refine (HL.out _ D1).mono ?_; rintro e w1 ⟨rfl, I1, B1⟩))
      go_ret
      rw [HVX.out] at I1
      exact ⟨rfl, I1, (HBL.out.mono (Nat.le_of_lt hzl)).trans B1⟩
theorem Rec.drew {w : World} {b : Nat} (h : Rec w b) : Rec w.drew b := ⟨h.lt, h.c0, h.c1, h.f⟩
theorem bytes_new (w : World) (s : ByteArray) (cap : Nat) (t : TypeId) (q : Nat × Nat) : BytesAt ((w.alloc (.cells (bytesRow s cap) t q)).drew) w.heap.size s :=
  ⟨by simp, fun i h => (World.cell?_alloc_mark w (bytesRow s cap) t q i).trans (bytesRow_at s cap i h)⟩
set_option maxRecDepth 20000 in
theorem whole_any (s : ByteArray) (hs : s.size ≤ 4) (w : World) :
    Calls Try.prog 40 #[.string s] w fun e w' => e = .returned (.pointer (some ⟨w.heap.size, 0, none⟩)) ∧ IntAt w.heap.size w'.heap.size w' w.heap.size false (bval s) ∧ Below w.heap.size w w' := by
  have hcv := fun w => run_bytes_of_string (P := Try.prog) w 22 101 5 s Try.underlying22 Try.underlying101 Try.underlying5
  have B1 := alloc_below w (.cells #[.bool false, .slice none 0 0] 71)
  have R1 := rec_new w (.bool false) (.slice none 0 0) 71
  have HS := fun cap q (h1 : s.size ≤ cap) (h2 : cap ≤ maxLen) => setbytes_any w.heap.size (w.heap.size + 1) cap s hs h1 h2 _ (R1.on (alloc_below _ (.cells (bytesRow s cap) 5 q)) R1.lt).drew (by
    have := bytes_new (w.alloc (.cells #[.bool false, .slice none 0 0] 71)) s cap 5 q
    rw [World.size_alloc] at this
    exact this)
  have HS2 := Lib.hid (HS _ ((bytesRow s (grownCap (w.alloc (.cells #[.bool false, .slice none 0 0] 71)) s.size 0 5)).size, (bytesRow s (grownCap (w.alloc (.cells #[.bool false, .slice none 0 0] 71)) s.size 0 5)).size + 1) (grownCap_ge _ _ _ _) (grownCap_le_maxLen (w.alloc (.cells #[.bool false, .slice none 0 0] 71)) s.size 0 5 (by unfold maxLen; omega)))
  have HB := Lib.hid (below_drewN (B1.alloced (o := .cells (bytesRow s (grownCap (w.alloc (.cells #[.bool false, .slice none 0 0] 71)) s.size 0 5)) 5 ((bytesRow s (grownCap (w.alloc (.cells #[.bool false, .slice none 0 0] 71)) s.size 0 5)).size, (bytesRow s (grownCap (w.alloc (.cells #[.bool false, .slice none 0 0] 71)) s.size 0 5)).size + 1))) 1)
  clear HS B1 R1
  go_enter Try.func40, Try.ntmps40
  go_wp2_with (go_at_call 56; refine HS2.out.mono ?_; rintro e w1 ⟨rfl, I1, B1⟩)
  go_ret
  exact ⟨rfl, I1, HB.out.trans B1⟩
end Go.Proofs.Ytacpakmglmfgnaa
