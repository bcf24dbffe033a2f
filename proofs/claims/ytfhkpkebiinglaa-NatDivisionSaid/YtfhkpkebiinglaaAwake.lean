/-
  The walk of awake: a few answers that every statement asks for.
-/
import Derived.Test.YtfhkpkebiinglaaEnc
namespace Go.Proofs.Ytfhkpkebiinglaa
open Go.RowKit

theorem enc_63 : enc 9223372036854775808 = ⟨#[128, 0, 0, 0, 0, 0, 0, 0]⟩ := enc_lit [0, 0, 0, 0, 0, 0, 0, 128] (by decide) (by decide) (by decide) rfl
theorem enc_10 : enc 10 = ⟨#[10]⟩ := enc_lit [10] (by decide) (by decide) (by decide) rfl
theorem enc_7 : enc 7 = ⟨#[7]⟩ := enc_lit [7] (by decide) (by decide) (by decide) rfl
theorem enc_3 : enc 3 = ⟨#[3]⟩ := enc_lit [3] (by decide) (by decide) (by decide) rfl
theorem enc_1 : enc 1 = ⟨#[1]⟩ := enc_lit [1] (by decide) (by decide) (by decide) rfl
theorem enc_big : enc 92233720368547758080 = ⟨#[5, 0, 0, 0, 0, 0, 0, 0, 0]⟩ := enc_lit [0, 0, 0, 0, 0, 0, 0, 0, 5] (by decide) (by decide) (by decide) rfl
theorem enc_quo : enc 13176245766935394011 = ⟨#[182, 219, 109, 182, 219, 109, 182, 219]⟩ := enc_lit [219, 182, 109, 219, 182, 109, 219, 182] (by decide) (by decide) (by decide) rfl
theorem dec_big : dec 92233720368547758080 = ⟨#[57, 50, 50, 51, 51, 55, 50, 48, 51, 54, 56, 53, 52, 55, 55, 53, 56, 48, 56, 48]⟩ := by
  have h : digs 10 92233720368547758080 = [0, 8, 0, 8, 5, 7, 7, 4, 5, 8, 6, 3, 0, 2, 7, 3, 3, 2, 2, 9] := by
    have := digs_dval (B := 10) (by omega) [0, 8, 0, 8, 5, 7, 7, 4, 5, 8, 6, 3, 0, 2, 7, 3, 3, 2, 2, 9] (by decide) (by decide)
    rw [← this]
    congr 1
  unfold dec
  rw [if_neg (by omega), h]
  rfl
theorem w_mul (w : World) : Calls Try.prog 20 #[.string ⟨#[128, 0, 0, 0, 0, 0, 0, 0]⟩, .string ⟨#[10]⟩] w fun e w' => e = .returned (.tuple #[.string ⟨#[5, 0, 0, 0, 0, 0, 0, 0, 0]⟩, .int .i64 0]) ∧ Below w.heap.size w w' := by
  have h := Mul_any (enc 9223372036854775808) (enc 10) w (by rw [enc_63]; decide) (by rw [enc_10]; decide)
  rw [if_pos ⟨(ok_small _ (by decide)).1, (ok_small _ (by decide)).1⟩, bval_enc, bval_enc, (ok_small _ (by decide)).2, enc_63, enc_10] at h
  rw [← enc_big]
  exact h
theorem w_text (w : World) : Calls Try.prog 40 #[.string ⟨#[5, 0, 0, 0, 0, 0, 0, 0, 0]⟩] w fun e w' => e = .returned (.tuple #[.string ⟨#[57, 50, 50, 51, 51, 55, 50, 48, 51, 54, 56, 53, 52, 55, 55, 53, 56, 48, 56, 48]⟩, .int .i64 0]) ∧ Below w.heap.size w w' := by
  have h := Text_any (enc 92233720368547758080) w (by rw [enc_big]; decide)
  rw [if_pos (ok_small _ (by decide)).1, bval_enc, dec_big, enc_big] at h
  exact h
theorem w_div (w : World) : Calls Try.prog 24 #[.string ⟨#[5, 0, 0, 0, 0, 0, 0, 0, 0]⟩, .string ⟨#[7]⟩] w fun e w' => e = .returned (.tuple #[.string ⟨#[182, 219, 109, 182, 219, 109, 182, 219]⟩, .string ⟨#[3]⟩, .int .i64 0]) ∧ Below w.heap.size w w' := by
  have h := Div_of (enc 92233720368547758080) (enc 7) w (by rw [enc_big]; decide) (by rw [enc_7]; decide) (fun _ _ h0 => divAtY_small _ h0 (by rw [bval_enc]; omega))
  rw [if_pos ⟨(ok_small _ (by decide)).1, (ok_small _ (by decide)).1⟩, bval_enc, bval_enc] at h
  unfold divN at h
  rw [if_neg (by omega), enc_big, enc_7] at h
  have e1 : 92233720368547758080 / 7 = 13176245766935394011 := by omega
  have e2 : 92233720368547758080 % 7 = 3 := by omega
  rw [e1, e2, enc_quo, enc_3] at h
  exact h
theorem w_sub (w : World) : Calls Try.prog 33 #[.string ⟨#[]⟩, .string ⟨#[1]⟩] w fun e w' => e = .returned (.tuple #[.string ⟨#[]⟩, .int .i64 20]) ∧ Below w.heap.size w w' := by
  have h := Sub_any (enc 0) (enc 1) w (by rw [enc_zero]; decide) (by rw [enc_1]; decide)
  rw [if_pos ⟨(ok_small _ (by decide)).1, (ok_small _ (by decide)).1⟩, bval_enc, bval_enc] at h
  unfold subN at h
  rw [if_pos (by omega), enc_zero, enc_1] at h
  exact h
theorem w_check (w : World) : Calls Try.prog 46 #[.string ⟨#[0]⟩] w fun e w' => e = .returned (.int .i64 2) ∧ Below w.heap.size w w' := by
  have h := Check_any ⟨#[0]⟩ w (by decide)
  rw [if_neg (by decide)] at h
  exact h
theorem w_of63 (w : World) : Calls Try.prog 47 #[.int .u64 9223372036854775808] w fun e w' => e = .returned (.string ⟨#[128, 0, 0, 0, 0, 0, 0, 0]⟩) ∧ Below w.heap.size w w' := by
  have h := Of_any 9223372036854775808 (by omega) w
  rw [enc_63] at h
  exact h
theorem w_of10 (w : World) : Calls Try.prog 47 #[.int .u64 10] w fun e w' => e = .returned (.string ⟨#[10]⟩) ∧ Below w.heap.size w w' := by
  have h := Of_any 10 (by omega) w
  rw [enc_10] at h
  exact h
theorem w_of7 (w : World) : Calls Try.prog 47 #[.int .u64 7] w fun e w' => e = .returned (.string ⟨#[7]⟩) ∧ Below w.heap.size w w' := by
  have h := Of_any 7 (by omega) w
  rw [enc_7] at h
  exact h

set_option maxRecDepth 20000 in
theorem awake_any (w : World) : Calls Try.prog 19 #[] w fun e w' => e = .returned (.bool true) ∧ Below w.heap.size w w' := by
  go_enter Try.func19, Try.ntmps19
  go_wp2_with (first | (go_at_call 47; with_reducible refine (w_of63 _).mono ?_; rintro e w1 ⟨rfl, B1⟩) | (go_at_call 47; with_reducible refine (w_of10 _).mono ?_; rintro e w2 ⟨rfl, B2⟩) | (go_at_call 47; with_reducible refine (w_of7 _).mono ?_; rintro e w5 ⟨rfl, B5⟩) | (go_at_call 20; refine (w_mul _).mono ?_; rintro e w3 ⟨rfl, B3⟩) | (go_at_call 40; refine (w_text _).mono ?_; rintro e w4 ⟨rfl, B4⟩) | (go_at_call 24; refine (w_div _).mono ?_; rintro e w6 ⟨rfl, B6⟩) | (go_at_call 33; refine (w_sub _).mono ?_; rintro e w7 ⟨rfl, B7⟩) | (go_at_call 46; refine (w_check _).mono ?_; rintro e w8 ⟨rfl, B8⟩))
  go_ret
  exact ⟨rfl, (((((((B1.on B2).on B3).on B4).on B5).on B6).on B7).on B8)⟩
end Go.Proofs.Ytfhkpkebiinglaa
