/-
  Wide's whole numbers below 2^32: cmp, Sign, Cmp, NewInt of -1.
-/
import Derived.Test.YtacpakmglmfgnaaWb
namespace Go.Proofs.Ytacpakmglmfgnaa
open Go.RowKit

theorem quiet_it {P : Program} {f : FuncId} {args : Array Value} {w : World} {n : Nat} {v : Value}
    (h : Calls P f args (w.drewN n) fun e w' => ∃ m, e = .returned v ∧ w' = (w.drewN n).drewN m) : Calls P f args (w.drewN n) fun e w'' => e = .returned v ∧ ∃ m, w'' = w.drewN m :=
  h.mono fun _ _ ⟨m, he, hm⟩ => ⟨he, n + m, by rw [hm, World.drewN_drewN]⟩
/-- The order of two numbers, as wide tells it. -/
def cmpV (x y : Nat) : Value := if x < y then .int .i64 (-1) else if y < x then .int .i64 1 else .int .i64 0
theorem cmpV_lt {x y : Nat} (h : x < y) : cmpV x y = .int .i64 (-1) := if_pos h
theorem cmpV_gt {x y : Nat} (h : y < x) : cmpV x y = .int .i64 1 := by unfold cmpV; rw [if_neg (by omega), if_pos h]
theorem cmpV_eq (x : Nat) : cmpV x x = .int .i64 0 := by unfold cmpV; rw [if_neg (by omega), if_neg (by omega)]
set_option maxRecDepth 20000 in
theorem wcmp_any (u v : Value) (x y A B C D : Nat) (w : World) (hu : Dig A B w u x) (hv : Dig C D w v y) :
    Calls Try.prog 36 #[u, v] w fun e w' => ∃ n, e = .returned (cmpV x y) ∧ w' = w.drewN n := by
  rcases hu with ⟨rfl, ao, cap, rfl, hc⟩ | ⟨hx0, hx, b, cap, rfl, hc1, hc, hA, hb, hcell⟩ <;>
  rcases hv with ⟨rfl, bo, kap, rfl, kc⟩ | ⟨hy0, hy, g, kap, rfl, kc1, kc, hC, kb, kcell⟩
  · rw [cmpV_eq]
    go_enter Try.func36, Try.ntmps36
    go_wp2
    go_rounds 1
    go_ret
    exact ⟨0, rfl, rfl⟩
  · rw [cmpV_lt hy0]
    go_enter Try.func36, Try.ntmps36
    go_wp2
    go_ret
    exact ⟨0, rfl, rfl⟩
  · rw [cmpV_gt hx0]
    go_enter Try.func36, Try.ntmps36
    go_wp2
    go_ret
    exact ⟨0, rfl, rfl⟩
  · rcases Nat.lt_trichotomy x y with h | h | h
    · have hn : ((x : Int) == y) = false := by rw [beq_eq_false_iff_ne]; omega
      have hl : (x : Int) < y := by omega
      rw [cmpV_lt h]
      go_enter Try.func36, Try.ntmps36
      go_wp2
      refine wp_loop_rounds 2 ?_
      rw [rounds_succ]
      go_wp2
      go_quiet (fail)
      go_wp2
      go_quiet (fail)
      go_wp2
      go_ret
      exact ⟨_, rfl, by first | rfl | rw [World.drewN_drewN]⟩
    · subst h
      have hn : ((x : Int) == x) = true := by simp
      rw [cmpV_eq]
      go_enter Try.func36, Try.ntmps36
      go_wp2
      refine wp_loop_rounds 2 ?_
      rw [rounds_succ]
      go_wp2
      go_quiet (fail)
      go_wp2
      rw [rounds_succ]
      go_wp2
      go_ret
      exact ⟨_, rfl, by first | rfl | rw [World.drewN_drewN]⟩
    · have hn : ((x : Int) == y) = false := by rw [beq_eq_false_iff_ne]; omega
      have hl : ¬ (x : Int) < y := by omega
      rw [cmpV_gt h]
      go_enter Try.func36, Try.ntmps36
      go_wp2
      refine wp_loop_rounds 2 ?_
      rw [rounds_succ]
      go_wp2
      go_quiet (fail)
      go_wp2
      go_quiet (fail)
      go_wp2
      go_ret
      exact ⟨_, rfl, by first | rfl | rw [World.drewN_drewN]⟩
theorem wsign_any (x A B b : Nat) (w : World) (h : IntAt A B w b false x) :
    Calls Try.prog 35 #[.pointer (some ⟨b, 0, none⟩)] w fun e w' => e = .returned (.int .i64 (if x = 0 then 0 else 1)) ∧ w' = w := by
  have ha := h.a
  obtain ⟨v, hv, hd⟩ := h.d
  clear h
  rcases hd with ⟨rfl, ao, cap, rfl, hc⟩ | ⟨hx0, hx, g, cap, rfl, hc1, hc, hA, hb, hcell⟩
  · rw [if_pos rfl]
    go_enter Try.func35, Try.ntmps35
    go_wp2
    go_ret
    exact ⟨rfl, rfl⟩
  · rw [if_neg (by omega)]
    go_enter Try.func35, Try.ntmps35
    go_wp2
    go_ret
    exact ⟨rfl, rfl⟩
theorem wCmp_any (x y A B C D a b : Nat) (w : World) (hx : IntAt A B w a false x) (hy : IntAt C D w b false y) :
    Calls Try.prog 21 #[.pointer (some ⟨a, 0, none⟩), .pointer (some ⟨b, 0, none⟩)] w fun e w' => ∃ n, e = .returned (cmpV x y) ∧ w' = w.drewN n := by
  have ha := hx.a
  have hb := hy.a
  obtain ⟨u, hu, du⟩ := hx.d
  obtain ⟨v, hv, dv⟩ := hy.d
  have HC := Lib.hid fun n => wcmp_any u v x y _ _ _ _ (w.drewN n) du dv
  clear hx hy
  rcases du with ⟨rfl, ao, cap, rfl, hc⟩ | ⟨hx0, hx, b, cap, rfl, hc1, hc, hA, hb, hcell⟩ <;>
  rcases dv with ⟨rfl, bo, kap, rfl, kc⟩ | ⟨hy0, hy, g, kap, rfl, kc1, kc, hC, kb, kcell⟩
  · go_enter Try.func21, Try.ntmps21
    go_wp2
    go_quiet ((go_at_call 36; exact quiet_it (HC.out _)))
    go_wp2
    go_ret
    exact ⟨_, rfl, by first | rfl | (simp only [World.drewN_drewN]; rfl)⟩
  · rw [cmpV_lt hy0]
    go_enter Try.func21, Try.ntmps21
    go_wp2
    go_ret
    exact ⟨0, rfl, rfl⟩
  · rw [cmpV_gt hx0]
    go_enter Try.func21, Try.ntmps21
    go_wp2
    go_ret
    exact ⟨0, rfl, rfl⟩
  · go_enter Try.func21, Try.ntmps21
    go_wp2
    go_quiet ((go_at_call 36; exact quiet_it (HC.out _)))
    go_wp2
    go_ret
    exact ⟨_, rfl, by first | rfl | (simp only [World.drewN_drewN]; rfl)⟩
end Go.Proofs.Ytacpakmglmfgnaa
