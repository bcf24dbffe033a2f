/-
  The walks of left and right: a row of limbs shifted.
-/
import Derived.Test.YtfhkpkebiinglaaSub
namespace Go.Proofs.Ytfhkpkebiinglaa
open Go.RowKit

/-- A row of noughts made. -/
theorem wpList_make_ap {P : Program} {ops : Array Oper} {rest : List Oper} {o : Oper} {a : Act} {Q : Exit → Act → World → Prop} (hgd : o.guard = none) (l c : Operand) (t : TypeId)
    (hop : o.op = Op.makeSlice t l c) {e : TypeId} {k : IntKind} {bytes : Nat} (ht : P.underlying t = some (.slice e)) (hinfo : (P.info? e).map (fun i => (i.zero, i.size, i.bytes)) = some (some (.int k 0), 1, bytes)) (hb : bytes ≤ 8)
    (w0 : World) {W : World} (hbel : Below w0.heap.size w0 W) (n m : Nat) (x y : Int) (kl kc : IntKind) (hl : a.eval l = .int kl x) (hc : a.eval c = .int kc y) (hx : x = (n : Int)) (hy : y = (m : Int)) (hnm : n ≤ m) (hm : m ≤ 10000000)
    (hK : ∀ w', Ap w0 e k (.slice (some ⟨W.heap.size, 0, none⟩) n m) (List.replicate n 0) w' → w'.heap.size = W.heap.size + 1 → Below W.heap.size W w' → wpList P ops Q rest (a.put o.dst (.slice (some ⟨W.heap.size, 0, none⟩) n m)) w') :
    wpList P ops Q (o :: rest) a W := by
  obtain ⟨i, hi, hz, hs, hby⟩ := info_parts hinfo
  have hbytes : (i.bytes : Int) * (m : Int) ≤ 281474976710656 := by
    rw [hby]
    have h : bytes * m ≤ 8 * 10000000 := Nat.mul_le_mul hb hm
    have : ((bytes * m : Nat) : Int) = (bytes : Int) * (m : Int) := by rw [Int.natCast_mul]
    omega
  have hr := run_make (P := P) W t e i (.int k 0) ht hi hz kl kc (n : Int) (m : Int) (by omega) (by omega) hbytes (by omega)
  simp only [Int.toNat_natCast] at hr
  rw [hs, Nat.mul_one] at hr
  subst hx
  subst hy
  refine wpList_plain hgd fun K hK' => ?_
  unfold Oper.wp
  simp [execOp, hop, hl, hc, hr, Result.andThen]
  refine hK' _ _ (hK _ ⟨⟨by simp [cu], .inr ⟨W.heap.size, m, _, by rw [List.length_replicate], hbel.size, heap_alloc_new W _, by simpa using hnm, by unfold maxLen; omega, by rw [size_madeCells, Nat.mul_one], ?_⟩⟩, hbel.alloc hbel.size _⟩ (by simp) ((Below.refl _ _).alloc (Nat.le_refl _) _))
  have e1 : (Value.int k 0).cells = #[.int k 0] := rfl
  rw [e1, toList_madeCells_one]
  simp [cu, Nat.min_eq_left hnm]

theorem or_low (c x s : Nat) (hc : c < 2 ^ s) : c ||| x * 2 ^ s = c + x * 2 ^ s := by
  have := Nat.shiftLeft_add_eq_or_of_lt (i := s) (b := c) hc x
  rw [Nat.shiftLeft_eq, Nat.or_comm] at this
  omega
theorem left_or (c x s : Nat) (hc : c < 2 ^ s) (hx : x < 4294967296) (hs : s < 32) : bits .or .u64 (c : Int) (IntKind.u64.wrap ((x : Int) * 2 ^ s)) = ((c + x * 2 ^ s : Nat) : Int) := by
  have h2 : 2 ^ s ≤ 2 ^ 31 := Nat.pow_le_pow_right (by omega) (by omega)
  have h3 : (x + 1) * 2 ^ s ≤ 4294967296 * 2 ^ 31 := Nat.mul_le_mul (by omega) h2
  rw [Nat.add_mul] at h3
  have e : IntKind.u64.wrap ((x : Int) * 2 ^ s) = ((x * 2 ^ s : Nat) : Int) := by
    rw [IntKind.wrap_u64]
    have : (x : Int) * 2 ^ s = ((x * 2 ^ s : Nat) : Int) := by push_cast; rfl
    rw [this]; omega
  rw [e, bits_or64 _ _ (by omega) (by omega), or_low c x s hc]

set_option maxRecDepth 20000 in
theorem left_any (aa : Option Addr) (ca : Nat) (A : List Nat) (n : Nat) (hA : ∀ d ∈ A, d < 4294967296) (ha : A.length ≤ 1000000) (hn : n ≤ 1000000) (w : World) (rA : RowAt w .u32 aa ca A) :
    Calls Try.prog 69 #[.slice aa A.length ca, .int .i64 (n : Int)] w (GaveRow 91 .u32 (digs 4294967296 (dval 4294967296 A * 2 ^ n)) w) := by
  have RA := Lib.hid rA
  have HA := Lib.hid hA
  clear rA hA
  by_cases h0 : A.length = 0
  · have hA0 : A = [] := List.eq_nil_of_length_eq_zero h0
    subst hA0
    go_enter Try.func69, Try.ntmps69
    go_wp2
    go_ret
    refine ⟨_, rfl, ?_, Below.refl _ _⟩
    have : digs 4294967296 (dval 4294967296 [] * 2 ^ n) = [] := by simp [dval, digs_zero]
    rw [this]
    exact World.ownsRow_nil _ _ _ _
  · have hq : (((A.length : Nat) : Int) == 0) = false := by rw [beq_eq_false_iff_ne]; omega
    have hk : n / 32 ≤ 31250 := by omega
    obtain ⟨s, hs⟩ : ∃ s, s = n % 32 := ⟨_, rfl⟩
    have hs32 : s < 32 := by omega
    obtain ⟨k, hkk⟩ : ∃ k, k = n / 32 := ⟨_, rfl⟩
    have e1 : (n : Int) / 32 = (k : Int) := by omega
    have e2 : (n : Int) % 32 = (s : Int) := by omega
    have h2p : Hid (2 ^ s ≤ 2147483648) := Nat.pow_le_pow_right (n := 2) (i := s) (j := 31) (by omega) (by omega)
    have HP : Hid (2 ^ n = 4294967296 ^ k * 2 ^ s) := by
      show _ = _
      have : (4294967296 : Nat) = 2 ^ 32 := rfl
      rw [this, ← Nat.pow_mul, ← Nat.pow_add]; congr 1; omega
    have hkb : k ≤ 31250 := by omega
    clear hk hs hkk h0
    go_enter Try.func69, Try.ntmps69
    go_wp2_with (first | (at_make; refine wpList_make_ap rfl _ _ 77 rfl Try.underlying77 info91 (by omega) w (Below.refl _ _) k (k + A.length + 1) _ _ .i64 .i64 rfl rfl rfl (by go_num) (by omega) (by omega) ?_; intro w1 hap1 hs1 hs2; clear hs1 hs2))
    have HO := Lib.hid hap1
    clear hap1
    go_loopw [5, 6, 23] (fun vo vc vi wr => ∃ i c O, i ≤ A.length ∧ vi = .int .i64 ((i : Nat) : Int) ∧ vc = .int .u64 ((c : Nat) : Int) ∧ LeftAt 4294967296 A (2 ^ s) i c O ∧ Ap w 91 .u32 vo (List.replicate k 0 ++ O) wr) (fun _ _ vi _ => A.length - (intOf vi).toNat)
    case atStart => exact ⟨0, 0, [], Nat.zero_le _, rfl, rfl, LeftAt.start _ A _ (Nat.two_pow_pos _), by rw [List.append_nil]; exact HO.out⟩
    case round =>
      obtain ⟨i, c, O, hi, rfl, rfl, hm, ho⟩ := hrel
      have hc := hm.carry
      have hlen : (List.replicate k 0 ++ O).length ≤ 10000000 := by simp [hm.len]; omega
      have hc2 : c < 4294967296 := Nat.lt_of_lt_of_le hc (Nat.le_trans h2p.out (by omega))
      have HMA := Lib.hid hm
      have HW := Lib.hid ho
      have HLN := Lib.hid hlen
      clear hm ho hlen
      by_cases hlt : i < A.length
      · obtain ⟨ba, rfl, hba, hca⟩ := RA.out.get HW.out.below i hlt
        have hx := HA.out _ (List.getElem_mem hlt)
        have HST := Lib.hid (HMA.out.step (by omega) hlt hx)
        generalize A[i] = x at *
        have hba2 : ba < wr.heap.size := Nat.lt_of_lt_of_le hba HW.out.below.size
        have hor := left_or c x s hc hx hs32
        have hts : c + x * 2 ^ s < 18446744073709551616 := by
          have h3 : (x + 1) * 2 ^ s ≤ 4294967296 * 2147483648 := Nat.mul_le_mul (by omega) h2p.out
          rw [Nat.add_mul] at h3
          omega
        generalize c + x * 2 ^ s = t at *
        go_wp2_with (first | (at_builtin; refine wpList_append_one rfl _ _ 77 rfl Try.underlying77 info91 rfl (by omega) w HW.out (t % 4294967296) _ rfl rfl (by omega) HLN.out ?_; intro v1 w2 hap1))
        go_roundw
        case rel => exact ⟨i + 1, _, _, by omega, by go_num, rfl, HST.out, by rw [← List.append_assoc]; exact hap1⟩
        case measure => simp [intOf]; omega
      · have hie : i = A.length := by omega
        subst hie
        have hlt : ∀ d ∈ (List.replicate k 0 ++ O) ++ [c], d < 4294967296 := by
          refine snoc_lt (fun d hd => ?_) hc2
          rcases List.mem_append.1 hd with h | h
          · rw [List.eq_of_mem_replicate h]; omega
          · exact HMA.out.lt d h
        have hv : dval 4294967296 ((List.replicate k 0 ++ O) ++ [c]) = dval 4294967296 A * 2 ^ n := by
          rw [List.append_assoc, dval_pre, HMA.out.leave, HP.out]
          rw [Nat.mul_left_comm]
        have L1 := Lib.hid hlt
        have L2 := Lib.hid hv
        clear hlt hv
        go_wp2_with (first | (at_builtin; refine wpList_append_one rfl _ _ 77 rfl Try.underlying77 info91 rfl (by omega) w HW.out c _ rfl rfl (by omega) HLN.out ?_; intro v1 w2 hap1; obtain ⟨ao, m, cap, HN, hv, hr, hg⟩ := hap1.done (by omega) L1.out; subst hv; have HC := Lib.hid (cut_n ao m cap _ HN.out L1.out w2 hr); rw [L2.out] at HC hg; have HG := Lib.hid hg; clear hg hr hap1) | (go_at_call 83; refine HC.out.mono ?_; rintro e w' ⟨rfl, rfl⟩))
        go_ret
        exact HG.out
end Go.Proofs.Ytfhkpkebiinglaa
