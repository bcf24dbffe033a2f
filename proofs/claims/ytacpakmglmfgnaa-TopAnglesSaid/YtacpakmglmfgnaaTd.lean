/-
  The walks of gcd, power, turns, times.
-/
import Derived.Test.YtacpakmglmfgnaaRows
import Derived.Test.YtacpakmglmfgnaaTc
import Derived.WalkKit
import Derived.WalkSpells
import Derived.WalkLawsBesides
import Derived.Handy
import Derived.LoopTactic
import Derived.Lib.Hide
import Derived.OwnWalk
import Derived.Below
import Derived.Deep.QuietTactic
import Derived.BigQuiet
import Derived.IntWalk
import Derived.Deep.RegionLaw
import Derived.BigRegion
namespace Go.Proofs.Ytacpakmglmfgnaa
open Go.RowKit

theorem ret_b {a b : Bool} (h : a = b) : Ending.returned (.bool a) = Ending.returned (.bool b) := by rw [h]
theorem ret_i {k : IntKind} {a b : Int} (h : a = b) : Ending.returned (.int k a) = Ending.returned (.int k b) := by rw [h]
theorem gcd_step (a b : Nat) : Nat.gcd b (a % b) = Nat.gcd a b := by rw [Nat.gcd_comm b, ← Nat.gcd_rec, Nat.gcd_comm]

theorem gcd_any (a b : Nat) (ha : a < 18446744073709551616) (hb : b < 18446744073709551616) (w : World) :
    Calls Try.prog 23 #[.int .u64 (a : Nat), .int .u64 (b : Nat)] w fun e w' => ∃ n, e = .returned (.int .u64 (Nat.gcd a b : Nat)) ∧ w' = w.drewN n := by
  go_enter Try.func23, Try.ntmps23
  go_wp2
  go_loopw [0, 1] (fun va vb wr => ∃ x y n : Nat, x < 18446744073709551616 ∧ y < 18446744073709551616 ∧ va = .int .u64 (x : Int) ∧ vb = .int .u64 (y : Int) ∧ Hid (Nat.gcd x y = Nat.gcd a b) ∧ wr = w.drewN n) (fun _ vb _ => (intOf vb).toNat)
  case atStart => exact ⟨a, b, 0, ha, hb, rfl, rfl, rfl, rfl⟩
  case round =>
    obtain ⟨x, y, n, hx, hy, rfl, rfl, HG, rfl⟩ := hrel
    clear ha hb
    by_cases h0 : y = 0
    · subst h0
      go_wp2
      go_ret
      exact ⟨n, by rw [← HG.out, Nat.gcd_zero_right]; rfl, rfl⟩
    · have hyp : 0 < y := by omega
      have hyz : ((y : Int) == 0) = false := by rw [beq_eq_false_iff_ne]; omega
      have hyn : ¬ (y : Int) = 0 := by omega
      clear h0
      go_wp2
      go_quiet (fail)
      go_wp2
      go_roundw
      case rel => exact ⟨y, x % y, _, hy, Nat.lt_trans (Nat.mod_lt x hyp) hy, rfl, by first | rfl | go_num, by show _ = _; rw [gcd_step]; exact HG.out, World.drewN_drewN _ _ _⟩
      case measure => simp [intOf]; exact Nat.mod_lt x hyp
theorem lgcd_any (a b : Nat) (ha : a < 4611686018427387904) (hb : b < 4611686018427387904) (w : World) :
    Calls Try.prog 7 #[.int .i64 (a : Nat), .int .i64 (b : Nat)] w fun e w' => ∃ n, e = .returned (.int .i64 (Nat.gcd a b : Nat)) ∧ w' = w.drewN n := by
  go_enter Try.func7, Try.ntmps7
  go_wp2
  go_loopw [0, 1] (fun va vb wr => ∃ x y n : Nat, x < 4611686018427387904 ∧ y < 4611686018427387904 ∧ va = .int .i64 (x : Int) ∧ vb = .int .i64 (y : Int) ∧ Hid (Nat.gcd x y = Nat.gcd a b) ∧ wr = w.drewN n) (fun _ vb _ => (intOf vb).toNat)
  case atStart => exact ⟨a, b, 0, ha, hb, rfl, rfl, rfl, rfl⟩
  case round =>
    obtain ⟨x, y, n, hx, hy, rfl, rfl, HG, rfl⟩ := hrel
    clear ha hb
    by_cases h0 : y = 0
    · subst h0
      go_wp2
      go_ret
      exact ⟨n, by rw [← HG.out, Nat.gcd_zero_right]; rfl, rfl⟩
    · have hyp : 0 < y := by omega
      have hyz : (0 : Int) < y := by omega
      have hym : ((y : Int) == 0) = false := by rw [beq_eq_false_iff_ne]; omega
      have hyn : ¬ (y : Int) = 0 := by omega
      have htm : IntKind.i64.wrap ((x : Int).tmod y) = ((x % y : Nat) : Int) := by
        have h1 : (x : Int).tmod y = ((x % y : Nat) : Int) := rfl
        rw [h1]; exact IntWalk.i64_in _ (by have := Nat.mod_lt x hyp; omega)
      clear h0
      go_wp2
      go_quiet (fail)
      go_wp2
      go_roundw
      case rel => exact ⟨y, x % y, _, hy, Nat.lt_trans (Nat.mod_lt x hyp) hy, rfl, by first | rfl | go_num, by show _ = _; rw [gcd_step]; exact HG.out, World.drewN_drewN _ _ _⟩
      case measure => simp [intOf]; first | done | exact Nat.mod_lt x hyp
theorem pow_odd {x y n den : Nat} (h : n % 2 = 1) : x * y % den * (y * y % den) ^ (n / 2) % den = x * y ^ n % den := by
  conv => rhs; rw [← Nat.div_add_mod n 2, h, Nat.pow_succ, Nat.pow_mul, Nat.pow_two]
  rw [Nat.mul_mod, Nat.mod_mod, ← Nat.pow_mod, ← Nat.mul_mod, Nat.mul_assoc, Nat.mul_comm y]
theorem pow_even {x y n den : Nat} (h : n % 2 = 0) : x * (y * y % den) ^ (n / 2) % den = x * y ^ n % den := by
  conv => rhs; rw [← Nat.div_add_mod n 2, h, Nat.add_zero, Nat.pow_mul, Nat.pow_two]
  rw [Nat.mul_mod, ← Nat.pow_mod, ← Nat.mul_mod]
theorem bits_and64 (x y : Nat) (hx : x < 18446744073709551616) (hy : y < 18446744073709551616) : bits .and .u64 (x : Int) (y : Int) = ((x &&& y : Nat) : Int) := by
  have h : x &&& y < 2 ^ 64 := Nat.and_lt_two_pow _ (by omega)
  have key : bits .and .u64 (x : Int) (y : Int) = IntKind.u64.wrap ((BitVec.ofNat 64 x &&& BitVec.ofNat 64 y).toNat : Int) := by
    rw [← BitVec.ofInt_natCast, ← BitVec.ofInt_natCast]; rfl
  rw [key, IntKind.wrap_u64, BitVec.toNat_and, BitVec.toNat_ofNat, BitVec.toNat_ofNat, Nat.mod_eq_of_lt (a := x) (by omega), Nat.mod_eq_of_lt (a := y) (by omega)]
  omega
theorem low32 (x : Nat) (hx : x < 18446744073709551616) : bits .and .u64 (x : Int) 4294967295 = ((x % 4294967296 : Nat) : Int) := by
  rw [show (4294967295 : Int) = ((4294967295 : Nat) : Int) from rfl, bits_and64 x _ hx (by omega)]
  rw [show (4294967295 : Nat) = 2 ^ 32 - 1 from rfl, Nat.and_two_pow_sub_one_eq_mod]
theorem bits_andi (x y : Nat) (hx : x < 9223372036854775808) (hy : y < 9223372036854775808) : bits .and .i64 (x : Int) (y : Int) = ((x &&& y : Nat) : Int) := by
  have h : x &&& y < 2 ^ 63 := Nat.and_lt_two_pow _ (by omega)
  have key : bits .and .i64 (x : Int) (y : Int) = IntKind.i64.wrap ((BitVec.ofNat 64 x &&& BitVec.ofNat 64 y).toNat : Int) := by
    rw [← BitVec.ofInt_natCast, ← BitVec.ofInt_natCast]; rfl
  rw [key, BitVec.toNat_and, BitVec.toNat_ofNat, BitVec.toNat_ofNat, Nat.mod_eq_of_lt (a := x) (by omega), Nat.mod_eq_of_lt (a := y) (by omega)]
  exact IntWalk.i64_in _ (by omega)
theorem low1i (x : Nat) (hx : x < 9223372036854775808) : bits .and .i64 (x : Int) 1 = ((x % 2 : Nat) : Int) := by
  rw [show (1 : Int) = ((1 : Nat) : Int) from rfl, bits_andi x _ hx (by omega)]
  rw [show (1 : Nat) = 2 ^ 1 - 1 from rfl, Nat.and_two_pow_sub_one_eq_mod]
set_option maxRecDepth 20000 in
theorem power_any (d n den : Nat) (hd : d < 18446744073709551616) (hn : n < 4398046511104) (hden : 0 < den) (hden2 : den < 2147483648) (w : World) :
    Calls Try.prog 19 #[.int .u64 (d : Nat), .int .i64 (n : Nat), .int .u64 (den : Nat)] w fun e w' => ∃ k, e = .returned (.int .u64 (d ^ n % den : Nat)) ∧ w' = w.drewN k := by
  have hz : ((den : Int) == 0) = false := by rw [beq_eq_false_iff_ne]; omega
  have hzn : ¬ (den : Int) = 0 := by omega
  have h1 := Nat.mod_lt 1 hden
  have h2 := Nat.mod_lt d hden
  have HS : Hid (1 % den * (d % den) ^ n % den = d ^ n % den) := by
    show _ = _
    rw [Nat.mul_mod, Nat.mod_mod, ← Nat.pow_mod, ← Nat.mul_mod, Nat.one_mul]
  go_enter Try.func19, Try.ntmps19
  go_wp2
  go_quiet (fail)
  go_wp2
  go_loopw [1, 7, 8] (fun vn vx vy wr => ∃ x y m k : Nat, x < den ∧ y < den ∧ m < 4398046511104 ∧ vn = .int .i64 (m : Int) ∧ vx = .int .u64 (x : Int) ∧ vy = .int .u64 (y : Int) ∧ Hid (x * y ^ m % den = d ^ n % den) ∧ wr = w.drewN k) (fun vn _ _ _ => (intOf vn).toNat)
  case atStart => exact ⟨1 % den, d % den, n, _, h1, h2, hn, rfl, by first | rfl | go_num, by first | rfl | go_num, HS, rfl⟩
  case round =>
    obtain ⟨x, y, m, k, hx, hy, hm, rfl, rfl, rfl, HG, rfl⟩ := hrel
    clear hd hn HS h1 h2
    have hxy : x * y < 2147483648 * 2147483648 := Nat.mul_lt_mul'' (by omega) (by omega)
    have hyy : y * y < 2147483648 * 2147483648 := Nat.mul_lt_mul'' (by omega) (by omega)
    have ez : ∃ z : Nat, z = x * y ∧ (x : Int) * y = (z : Int) := ⟨_, rfl, by simp⟩
    have ev : ∃ v : Nat, v = y * y ∧ (y : Int) * y = (v : Int) := ⟨_, rfl, by simp⟩
    obtain ⟨z, hz1, hz2⟩ := ez
    obtain ⟨v, hv1, hv2⟩ := ev
    rw [← hz1] at hxy
    rw [← hv1] at hyy
    have hxy' : z < 18446744073709551616 := by omega
    have hyy' : v < 18446744073709551616 := by omega
    have hw1 : IntKind.u64.wrap (z : Int) = (z : Int) := by rw [IntKind.wrap_u64]; omega
    have hw2 : IntKind.u64.wrap (v : Int) = (v : Int) := by rw [IntKind.wrap_u64]; omega
    clear hxy hyy
    by_cases h0 : m = 0
    · subst h0
      have hf : d ^ n % den = x := by rw [← HG.out, Nat.pow_zero, Nat.mul_one, Nat.mod_eq_of_lt hx]
      have HF := Lib.hid hf
      clear hf hz2 hv2
      go_wp2
      go_ret
      exact ⟨k, by rw [HF.out]; rfl, rfl⟩
    · have hmp : (0 : Int) < m := by omega
      have hand := low1i m (by omega)
      rcases Nat.mod_two_eq_zero_or_one m with hp | hp
      · have HQ := Lib.hid ((pow_even (x := x) (y := y) (den := den) hp).trans HG.out)
        rw [hp] at hand
        rw [← hv1] at HQ
        clear HG hz1 hz2 hp h0 hv1 hw1
        go_wp2
        go_roundw
        case rel => exact ⟨x, v % den, m / 2, _, hx, Nat.mod_lt _ hden, by omega, by first | rfl | go_num, rfl, by first | rfl | go_num, HQ, by first | rfl | exact World.drewN_drewN _ _ _⟩
        case measure => simp [intOf]; omega
      · have HQ := Lib.hid ((pow_odd (x := x) (y := y) (den := den) hp).trans HG.out)
        rw [hp] at hand
        rw [← hv1, ← hz1] at HQ
        clear HG hp h0 hv1 hz1
        go_wp2
        go_roundw
        case rel => exact ⟨z % den, v % den, m / 2, _, Nat.mod_lt _ hden, Nat.mod_lt _ hden, by omega, by first | rfl | go_num, by first | rfl | go_num, by first | rfl | go_num, HQ, by first | rfl | exact World.drewN_drewN _ _ _⟩
        case measure => simp [intOf]; omega
end Go.Proofs.Ytacpakmglmfgnaa
