/- 2.10: there and back by decimal digits, the order and the differences of machine numbers; and the calls that each statement asks besides answer as the document has it. Conditions: none. -/
import Derived.Test.YtfhkpkebiinglaaBack
namespace Go.Proofs.Ytfhkpkebiinglaa
open Go.ChangeShapes Go.ChangeMaps Go.WideShapes Go.ChangeAt Go.RowKit Go.Joins
set_option linter.unusedVariables false

set_option maxRecDepth 100000 in
set_option maxHeartbeats 4000000 in
theorem back_less (a s t b sm sn sd : ByteArray) (m n v : Nat) (et eb : Int) (hsa : a.size ≤ 140737488351232) (hss : s.size ≤ 140737488351232)
    (HTA : Hid ((∀ w : World, Calls Try.prog 40 #[.string a] w fun e' w' => e' = .returned (.tuple #[.string t, .int .i64 et]) ∧ Below w.heap.size w w')))
    (HRT : Hid (et = 0 → (∀ w : World, Calls Try.prog 42 #[.string t] w fun e' w' => e' = .returned (.tuple #[.string a, .int .i64 0]) ∧ Below w.heap.size w w')))
    (HRS : Hid ((∀ w : World, Calls Try.prog 42 #[.string s] w fun e' w' => e' = .returned (.tuple #[.string b, .int .i64 eb]) ∧ Below w.heap.size w w')))
    (HTB : Hid (eb = 0 → (∀ w : World, Calls Try.prog 40 #[.string b] w fun e' w' => e' = .returned (.tuple #[.string s, .int .i64 0]) ∧ Below w.heap.size w w')))
    (HOM : Hid ((∀ w : World, Calls Try.prog 47 #[.int .u64 (m : Int)] w fun e' w' => e' = .returned (.string sm) ∧ Below w.heap.size w w')))
    (HON : Hid ((∀ w : World, Calls Try.prog 47 #[.int .u64 (n : Int)] w fun e' w' => e' = .returned (.string sn) ∧ Below w.heap.size w w')))
    (HSM : Hid ((∀ w : World, Calls Try.prog 44 #[.string sm] w fun e' w' => e' = .returned (.tuple #[.int .u64 (m : Int), .bool true]) ∧ Below w.heap.size w w')))
    (HCM : Hid ((∀ w : World, Calls Try.prog 30 #[.string sm, .string sn] w fun e' w' => e' = .returned (.tuple #[.int .i64 (-1), .int .i64 0]) ∧ Below w.heap.size w w')))
    (HSU : Hid ((∀ w : World, Calls Try.prog 33 #[.string sm, .string sn] w fun e' w' => e' = .returned (.tuple #[.string sd, .int .i64 20]) ∧ Below w.heap.size w w')))
    (HSD : Hid ((∀ w : World, Calls Try.prog 44 #[.string sd] w fun e' w' => e' = .returned (.tuple #[.int .u64 (v : Int), .bool true]) ∧ Below w.heap.size w w')))
    (HCO : Hid (∀ w : World, Calls Try.prog 57 #[.int .u64 (m : Int), .int .u64 (n : Int)] w fun e w' => e = .returned (.int .i64 (-1)) ∧ w = w'))  (w : World) :
    Calls Try.prog 15 #[.string a, .string s, .int .u64 (m : Int), .int .u64 (n : Int)] w fun e' w' => e' = .returned (.bool true) ∧ Below w.heap.size w w' := by
  by_cases h1 : et = 0
  · by_cases h2 : eb = 0
    · have HRT2 := Lib.hid (HRT.out h1)
      have HTB2 := Lib.hid (HTB.out h2)
      subst h1 h2
      clear HRT HTB
      go_enter Try.func15, Try.ntmps15
      go_wp2_with (first | (go_at_call 40; with_reducible refine (HTA.out _).mono ?_; rintro e' w0 ⟨rfl, B0⟩) | (go_at_call 42; with_reducible refine (HRT2.out _).mono ?_; rintro e' w1 ⟨rfl, B1⟩) | (go_at_call 42; with_reducible refine (HRS.out _).mono ?_; rintro e' w2 ⟨rfl, B2⟩) | (go_at_call 40; with_reducible refine (HTB2.out _).mono ?_; rintro e' w3 ⟨rfl, B3⟩) | (go_at_call 47; with_reducible refine (HOM.out _).mono ?_; rintro e' w4 ⟨rfl, B4⟩) | (go_at_call 47; with_reducible refine (HON.out _).mono ?_; rintro e' w5 ⟨rfl, B5⟩) | (go_at_call 44; with_reducible refine (HSM.out _).mono ?_; rintro e' w6 ⟨rfl, B6⟩) | (go_at_call 30; with_reducible refine (HCM.out _).mono ?_; rintro e' w7 ⟨rfl, B7⟩) | (go_at_call 33; with_reducible refine (HSU.out _).mono ?_; rintro e' w8 ⟨rfl, B8⟩) | (go_at_call 44; with_reducible refine (HSD.out _).mono ?_; rintro e' w9 ⟨rfl, B9⟩) | (go_at_call 57; refine (HCO.out _).mono ?_; rintro e' w' ⟨rfl, rfl⟩) | (go_at_call 19; refine (awake_any _).mono ?_; rintro e wz ⟨rfl, BZ⟩))
      all_goals (go_ret; exact ⟨rfl, by repeat (first | assumption | refine Below.on ?_ (by assumption))⟩)
    · have HRT2 := Lib.hid (HRT.out h1)
      have HTB2 := HTA
      subst h1
      clear HRT HTB
      go_enter Try.func15, Try.ntmps15
      go_wp2_with (first | (go_at_call 40; with_reducible refine (HTA.out _).mono ?_; rintro e' w0 ⟨rfl, B0⟩) | (go_at_call 42; with_reducible refine (HRT2.out _).mono ?_; rintro e' w1 ⟨rfl, B1⟩) | (go_at_call 42; with_reducible refine (HRS.out _).mono ?_; rintro e' w2 ⟨rfl, B2⟩) | (go_at_call 40; with_reducible refine (HTB2.out _).mono ?_; rintro e' w3 ⟨rfl, B3⟩) | (go_at_call 47; with_reducible refine (HOM.out _).mono ?_; rintro e' w4 ⟨rfl, B4⟩) | (go_at_call 47; with_reducible refine (HON.out _).mono ?_; rintro e' w5 ⟨rfl, B5⟩) | (go_at_call 44; with_reducible refine (HSM.out _).mono ?_; rintro e' w6 ⟨rfl, B6⟩) | (go_at_call 30; with_reducible refine (HCM.out _).mono ?_; rintro e' w7 ⟨rfl, B7⟩) | (go_at_call 33; with_reducible refine (HSU.out _).mono ?_; rintro e' w8 ⟨rfl, B8⟩) | (go_at_call 44; with_reducible refine (HSD.out _).mono ?_; rintro e' w9 ⟨rfl, B9⟩) | (go_at_call 57; refine (HCO.out _).mono ?_; rintro e' w' ⟨rfl, rfl⟩) | (go_at_call 19; refine (awake_any _).mono ?_; rintro e wz ⟨rfl, BZ⟩))
      all_goals (go_ret; exact ⟨rfl, by repeat (first | assumption | refine Below.on ?_ (by assumption))⟩)
  · by_cases h2 : eb = 0
    · have HTB2 := Lib.hid (HTB.out h2)
      have HRT2 := HRS
      subst h2
      clear HRT HTB
      go_enter Try.func15, Try.ntmps15
      go_wp2_with (first | (go_at_call 40; with_reducible refine (HTA.out _).mono ?_; rintro e' w0 ⟨rfl, B0⟩) | (go_at_call 42; with_reducible refine (HRT2.out _).mono ?_; rintro e' w1 ⟨rfl, B1⟩) | (go_at_call 42; with_reducible refine (HRS.out _).mono ?_; rintro e' w2 ⟨rfl, B2⟩) | (go_at_call 40; with_reducible refine (HTB2.out _).mono ?_; rintro e' w3 ⟨rfl, B3⟩) | (go_at_call 47; with_reducible refine (HOM.out _).mono ?_; rintro e' w4 ⟨rfl, B4⟩) | (go_at_call 47; with_reducible refine (HON.out _).mono ?_; rintro e' w5 ⟨rfl, B5⟩) | (go_at_call 44; with_reducible refine (HSM.out _).mono ?_; rintro e' w6 ⟨rfl, B6⟩) | (go_at_call 30; with_reducible refine (HCM.out _).mono ?_; rintro e' w7 ⟨rfl, B7⟩) | (go_at_call 33; with_reducible refine (HSU.out _).mono ?_; rintro e' w8 ⟨rfl, B8⟩) | (go_at_call 44; with_reducible refine (HSD.out _).mono ?_; rintro e' w9 ⟨rfl, B9⟩) | (go_at_call 57; refine (HCO.out _).mono ?_; rintro e' w' ⟨rfl, rfl⟩) | (go_at_call 19; refine (awake_any _).mono ?_; rintro e wz ⟨rfl, BZ⟩))
      all_goals (go_ret; exact ⟨rfl, by repeat (first | assumption | refine Below.on ?_ (by assumption))⟩)
    · have HRT2 := HRS
      have HTB2 := HTA
      clear HRT HTB
      go_enter Try.func15, Try.ntmps15
      go_wp2_with (first | (go_at_call 40; with_reducible refine (HTA.out _).mono ?_; rintro e' w0 ⟨rfl, B0⟩) | (go_at_call 42; with_reducible refine (HRT2.out _).mono ?_; rintro e' w1 ⟨rfl, B1⟩) | (go_at_call 42; with_reducible refine (HRS.out _).mono ?_; rintro e' w2 ⟨rfl, B2⟩) | (go_at_call 40; with_reducible refine (HTB2.out _).mono ?_; rintro e' w3 ⟨rfl, B3⟩) | (go_at_call 47; with_reducible refine (HOM.out _).mono ?_; rintro e' w4 ⟨rfl, B4⟩) | (go_at_call 47; with_reducible refine (HON.out _).mono ?_; rintro e' w5 ⟨rfl, B5⟩) | (go_at_call 44; with_reducible refine (HSM.out _).mono ?_; rintro e' w6 ⟨rfl, B6⟩) | (go_at_call 30; with_reducible refine (HCM.out _).mono ?_; rintro e' w7 ⟨rfl, B7⟩) | (go_at_call 33; with_reducible refine (HSU.out _).mono ?_; rintro e' w8 ⟨rfl, B8⟩) | (go_at_call 44; with_reducible refine (HSD.out _).mono ?_; rintro e' w9 ⟨rfl, B9⟩) | (go_at_call 57; refine (HCO.out _).mono ?_; rintro e' w' ⟨rfl, rfl⟩) | (go_at_call 19; refine (awake_any _).mono ?_; rintro e wz ⟨rfl, BZ⟩))
      all_goals (go_ret; exact ⟨rfl, by repeat (first | assumption | refine Below.on ?_ (by assumption))⟩)
set_option maxRecDepth 100000 in
set_option maxHeartbeats 4000000 in
theorem back_same (a s t b sm sn sd : ByteArray) (m n v : Nat) (et eb : Int) (hsa : a.size ≤ 140737488351232) (hss : s.size ≤ 140737488351232)
    (HTA : Hid ((∀ w : World, Calls Try.prog 40 #[.string a] w fun e' w' => e' = .returned (.tuple #[.string t, .int .i64 et]) ∧ Below w.heap.size w w')))
    (HRT : Hid (et = 0 → (∀ w : World, Calls Try.prog 42 #[.string t] w fun e' w' => e' = .returned (.tuple #[.string a, .int .i64 0]) ∧ Below w.heap.size w w')))
    (HRS : Hid ((∀ w : World, Calls Try.prog 42 #[.string s] w fun e' w' => e' = .returned (.tuple #[.string b, .int .i64 eb]) ∧ Below w.heap.size w w')))
    (HTB : Hid (eb = 0 → (∀ w : World, Calls Try.prog 40 #[.string b] w fun e' w' => e' = .returned (.tuple #[.string s, .int .i64 0]) ∧ Below w.heap.size w w')))
    (HOM : Hid ((∀ w : World, Calls Try.prog 47 #[.int .u64 (m : Int)] w fun e' w' => e' = .returned (.string sm) ∧ Below w.heap.size w w')))
    (HON : Hid ((∀ w : World, Calls Try.prog 47 #[.int .u64 (n : Int)] w fun e' w' => e' = .returned (.string sn) ∧ Below w.heap.size w w')))
    (HSM : Hid ((∀ w : World, Calls Try.prog 44 #[.string sm] w fun e' w' => e' = .returned (.tuple #[.int .u64 (m : Int), .bool true]) ∧ Below w.heap.size w w')))
    (HCM : Hid ((∀ w : World, Calls Try.prog 30 #[.string sm, .string sn] w fun e' w' => e' = .returned (.tuple #[.int .i64 0, .int .i64 0]) ∧ Below w.heap.size w w')))
    (HSU : Hid ((∀ w : World, Calls Try.prog 33 #[.string sm, .string sn] w fun e' w' => e' = .returned (.tuple #[.string sd, .int .i64 0]) ∧ Below w.heap.size w w')))
    (HSD : Hid ((∀ w : World, Calls Try.prog 44 #[.string sd] w fun e' w' => e' = .returned (.tuple #[.int .u64 (v : Int), .bool true]) ∧ Below w.heap.size w w')))
    (HCO : Hid (∀ w : World, Calls Try.prog 57 #[.int .u64 (m : Int), .int .u64 (n : Int)] w fun e w' => e = .returned (.int .i64 0) ∧ w = w')) (hv : IntKind.u64.wrap ((m : Int) - (n : Int)) = (v : Int)) (w : World) :
    Calls Try.prog 15 #[.string a, .string s, .int .u64 (m : Int), .int .u64 (n : Int)] w fun e' w' => e' = .returned (.bool true) ∧ Below w.heap.size w w' := by
  by_cases h1 : et = 0
  · by_cases h2 : eb = 0
    · have HRT2 := Lib.hid (HRT.out h1)
      have HTB2 := Lib.hid (HTB.out h2)
      subst h1 h2
      clear HRT HTB
      go_enter Try.func15, Try.ntmps15
      go_wp2_with (first | (go_at_call 40; with_reducible refine (HTA.out _).mono ?_; rintro e' w0 ⟨rfl, B0⟩) | (go_at_call 42; with_reducible refine (HRT2.out _).mono ?_; rintro e' w1 ⟨rfl, B1⟩) | (go_at_call 42; with_reducible refine (HRS.out _).mono ?_; rintro e' w2 ⟨rfl, B2⟩) | (go_at_call 40; with_reducible refine (HTB2.out _).mono ?_; rintro e' w3 ⟨rfl, B3⟩) | (go_at_call 47; with_reducible refine (HOM.out _).mono ?_; rintro e' w4 ⟨rfl, B4⟩) | (go_at_call 47; with_reducible refine (HON.out _).mono ?_; rintro e' w5 ⟨rfl, B5⟩) | (go_at_call 44; with_reducible refine (HSM.out _).mono ?_; rintro e' w6 ⟨rfl, B6⟩) | (go_at_call 30; with_reducible refine (HCM.out _).mono ?_; rintro e' w7 ⟨rfl, B7⟩) | (go_at_call 33; with_reducible refine (HSU.out _).mono ?_; rintro e' w8 ⟨rfl, B8⟩) | (go_at_call 44; with_reducible refine (HSD.out _).mono ?_; rintro e' w9 ⟨rfl, B9⟩) | (go_at_call 57; refine (HCO.out _).mono ?_; rintro e' w' ⟨rfl, rfl⟩) | (go_at_call 19; refine (awake_any _).mono ?_; rintro e wz ⟨rfl, BZ⟩))
      all_goals (go_ret; exact ⟨rfl, by repeat (first | assumption | refine Below.on ?_ (by assumption))⟩)
    · have HRT2 := Lib.hid (HRT.out h1)
      have HTB2 := HTA
      subst h1
      clear HRT HTB
      go_enter Try.func15, Try.ntmps15
      go_wp2_with (first | (go_at_call 40; with_reducible refine (HTA.out _).mono ?_; rintro e' w0 ⟨rfl, B0⟩) | (go_at_call 42; with_reducible refine (HRT2.out _).mono ?_; rintro e' w1 ⟨rfl, B1⟩) | (go_at_call 42; with_reducible refine (HRS.out _).mono ?_; rintro e' w2 ⟨rfl, B2⟩) | (go_at_call 40; with_reducible refine (HTB2.out _).mono ?_; rintro e' w3 ⟨rfl, B3⟩) | (go_at_call 47; with_reducible refine (HOM.out _).mono ?_; rintro e' w4 ⟨rfl, B4⟩) | (go_at_call 47; with_reducible refine (HON.out _).mono ?_; rintro e' w5 ⟨rfl, B5⟩) | (go_at_call 44; with_reducible refine (HSM.out _).mono ?_; rintro e' w6 ⟨rfl, B6⟩) | (go_at_call 30; with_reducible refine (HCM.out _).mono ?_; rintro e' w7 ⟨rfl, B7⟩) | (go_at_call 33; with_reducible refine (HSU.out _).mono ?_; rintro e' w8 ⟨rfl, B8⟩) | (go_at_call 44; with_reducible refine (HSD.out _).mono ?_; rintro e' w9 ⟨rfl, B9⟩) | (go_at_call 57; refine (HCO.out _).mono ?_; rintro e' w' ⟨rfl, rfl⟩) | (go_at_call 19; refine (awake_any _).mono ?_; rintro e wz ⟨rfl, BZ⟩))
      all_goals (go_ret; exact ⟨rfl, by repeat (first | assumption | refine Below.on ?_ (by assumption))⟩)
  · by_cases h2 : eb = 0
    · have HTB2 := Lib.hid (HTB.out h2)
      have HRT2 := HRS
      subst h2
      clear HRT HTB
      go_enter Try.func15, Try.ntmps15
      go_wp2_with (first | (go_at_call 40; with_reducible refine (HTA.out _).mono ?_; rintro e' w0 ⟨rfl, B0⟩) | (go_at_call 42; with_reducible refine (HRT2.out _).mono ?_; rintro e' w1 ⟨rfl, B1⟩) | (go_at_call 42; with_reducible refine (HRS.out _).mono ?_; rintro e' w2 ⟨rfl, B2⟩) | (go_at_call 40; with_reducible refine (HTB2.out _).mono ?_; rintro e' w3 ⟨rfl, B3⟩) | (go_at_call 47; with_reducible refine (HOM.out _).mono ?_; rintro e' w4 ⟨rfl, B4⟩) | (go_at_call 47; with_reducible refine (HON.out _).mono ?_; rintro e' w5 ⟨rfl, B5⟩) | (go_at_call 44; with_reducible refine (HSM.out _).mono ?_; rintro e' w6 ⟨rfl, B6⟩) | (go_at_call 30; with_reducible refine (HCM.out _).mono ?_; rintro e' w7 ⟨rfl, B7⟩) | (go_at_call 33; with_reducible refine (HSU.out _).mono ?_; rintro e' w8 ⟨rfl, B8⟩) | (go_at_call 44; with_reducible refine (HSD.out _).mono ?_; rintro e' w9 ⟨rfl, B9⟩) | (go_at_call 57; refine (HCO.out _).mono ?_; rintro e' w' ⟨rfl, rfl⟩) | (go_at_call 19; refine (awake_any _).mono ?_; rintro e wz ⟨rfl, BZ⟩))
      all_goals (go_ret; exact ⟨rfl, by repeat (first | assumption | refine Below.on ?_ (by assumption))⟩)
    · have HRT2 := HRS
      have HTB2 := HTA
      clear HRT HTB
      go_enter Try.func15, Try.ntmps15
      go_wp2_with (first | (go_at_call 40; with_reducible refine (HTA.out _).mono ?_; rintro e' w0 ⟨rfl, B0⟩) | (go_at_call 42; with_reducible refine (HRT2.out _).mono ?_; rintro e' w1 ⟨rfl, B1⟩) | (go_at_call 42; with_reducible refine (HRS.out _).mono ?_; rintro e' w2 ⟨rfl, B2⟩) | (go_at_call 40; with_reducible refine (HTB2.out _).mono ?_; rintro e' w3 ⟨rfl, B3⟩) | (go_at_call 47; with_reducible refine (HOM.out _).mono ?_; rintro e' w4 ⟨rfl, B4⟩) | (go_at_call 47; with_reducible refine (HON.out _).mono ?_; rintro e' w5 ⟨rfl, B5⟩) | (go_at_call 44; with_reducible refine (HSM.out _).mono ?_; rintro e' w6 ⟨rfl, B6⟩) | (go_at_call 30; with_reducible refine (HCM.out _).mono ?_; rintro e' w7 ⟨rfl, B7⟩) | (go_at_call 33; with_reducible refine (HSU.out _).mono ?_; rintro e' w8 ⟨rfl, B8⟩) | (go_at_call 44; with_reducible refine (HSD.out _).mono ?_; rintro e' w9 ⟨rfl, B9⟩) | (go_at_call 57; refine (HCO.out _).mono ?_; rintro e' w' ⟨rfl, rfl⟩) | (go_at_call 19; refine (awake_any _).mono ?_; rintro e wz ⟨rfl, BZ⟩))
      all_goals (go_ret; exact ⟨rfl, by repeat (first | assumption | refine Below.on ?_ (by assumption))⟩)
set_option maxRecDepth 100000 in
set_option maxHeartbeats 4000000 in
theorem back_more (a s t b sm sn sd : ByteArray) (m n v : Nat) (et eb : Int) (hsa : a.size ≤ 140737488351232) (hss : s.size ≤ 140737488351232)
    (HTA : Hid ((∀ w : World, Calls Try.prog 40 #[.string a] w fun e' w' => e' = .returned (.tuple #[.string t, .int .i64 et]) ∧ Below w.heap.size w w')))
    (HRT : Hid (et = 0 → (∀ w : World, Calls Try.prog 42 #[.string t] w fun e' w' => e' = .returned (.tuple #[.string a, .int .i64 0]) ∧ Below w.heap.size w w')))
    (HRS : Hid ((∀ w : World, Calls Try.prog 42 #[.string s] w fun e' w' => e' = .returned (.tuple #[.string b, .int .i64 eb]) ∧ Below w.heap.size w w')))
    (HTB : Hid (eb = 0 → (∀ w : World, Calls Try.prog 40 #[.string b] w fun e' w' => e' = .returned (.tuple #[.string s, .int .i64 0]) ∧ Below w.heap.size w w')))
    (HOM : Hid ((∀ w : World, Calls Try.prog 47 #[.int .u64 (m : Int)] w fun e' w' => e' = .returned (.string sm) ∧ Below w.heap.size w w')))
    (HON : Hid ((∀ w : World, Calls Try.prog 47 #[.int .u64 (n : Int)] w fun e' w' => e' = .returned (.string sn) ∧ Below w.heap.size w w')))
    (HSM : Hid ((∀ w : World, Calls Try.prog 44 #[.string sm] w fun e' w' => e' = .returned (.tuple #[.int .u64 (m : Int), .bool true]) ∧ Below w.heap.size w w')))
    (HCM : Hid ((∀ w : World, Calls Try.prog 30 #[.string sm, .string sn] w fun e' w' => e' = .returned (.tuple #[.int .i64 1, .int .i64 0]) ∧ Below w.heap.size w w')))
    (HSU : Hid ((∀ w : World, Calls Try.prog 33 #[.string sm, .string sn] w fun e' w' => e' = .returned (.tuple #[.string sd, .int .i64 0]) ∧ Below w.heap.size w w')))
    (HSD : Hid ((∀ w : World, Calls Try.prog 44 #[.string sd] w fun e' w' => e' = .returned (.tuple #[.int .u64 (v : Int), .bool true]) ∧ Below w.heap.size w w')))
    (HCO : Hid (∀ w : World, Calls Try.prog 57 #[.int .u64 (m : Int), .int .u64 (n : Int)] w fun e w' => e = .returned (.int .i64 1) ∧ w = w')) (hv : IntKind.u64.wrap ((m : Int) - (n : Int)) = (v : Int)) (w : World) :
    Calls Try.prog 15 #[.string a, .string s, .int .u64 (m : Int), .int .u64 (n : Int)] w fun e' w' => e' = .returned (.bool true) ∧ Below w.heap.size w w' := by
  by_cases h1 : et = 0
  · by_cases h2 : eb = 0
    · have HRT2 := Lib.hid (HRT.out h1)
      have HTB2 := Lib.hid (HTB.out h2)
      subst h1 h2
      clear HRT HTB
      go_enter Try.func15, Try.ntmps15
      go_wp2_with (first | (go_at_call 40; with_reducible refine (HTA.out _).mono ?_; rintro e' w0 ⟨rfl, B0⟩) | (go_at_call 42; with_reducible refine (HRT2.out _).mono ?_; rintro e' w1 ⟨rfl, B1⟩) | (go_at_call 42; with_reducible refine (HRS.out _).mono ?_; rintro e' w2 ⟨rfl, B2⟩) | (go_at_call 40; with_reducible refine (HTB2.out _).mono ?_; rintro e' w3 ⟨rfl, B3⟩) | (go_at_call 47; with_reducible refine (HOM.out _).mono ?_; rintro e' w4 ⟨rfl, B4⟩) | (go_at_call 47; with_reducible refine (HON.out _).mono ?_; rintro e' w5 ⟨rfl, B5⟩) | (go_at_call 44; with_reducible refine (HSM.out _).mono ?_; rintro e' w6 ⟨rfl, B6⟩) | (go_at_call 30; with_reducible refine (HCM.out _).mono ?_; rintro e' w7 ⟨rfl, B7⟩) | (go_at_call 33; with_reducible refine (HSU.out _).mono ?_; rintro e' w8 ⟨rfl, B8⟩) | (go_at_call 44; with_reducible refine (HSD.out _).mono ?_; rintro e' w9 ⟨rfl, B9⟩) | (go_at_call 57; refine (HCO.out _).mono ?_; rintro e' w' ⟨rfl, rfl⟩) | (go_at_call 19; refine (awake_any _).mono ?_; rintro e wz ⟨rfl, BZ⟩))
      all_goals (go_ret; exact ⟨rfl, by repeat (first | assumption | refine Below.on ?_ (by assumption))⟩)
    · have HRT2 := Lib.hid (HRT.out h1)
      have HTB2 := HTA
      subst h1
      clear HRT HTB
      go_enter Try.func15, Try.ntmps15
      go_wp2_with (first | (go_at_call 40; with_reducible refine (HTA.out _).mono ?_; rintro e' w0 ⟨rfl, B0⟩) | (go_at_call 42; with_reducible refine (HRT2.out _).mono ?_; rintro e' w1 ⟨rfl, B1⟩) | (go_at_call 42; with_reducible refine (HRS.out _).mono ?_; rintro e' w2 ⟨rfl, B2⟩) | (go_at_call 40; with_reducible refine (HTB2.out _).mono ?_; rintro e' w3 ⟨rfl, B3⟩) | (go_at_call 47; with_reducible refine (HOM.out _).mono ?_; rintro e' w4 ⟨rfl, B4⟩) | (go_at_call 47; with_reducible refine (HON.out _).mono ?_; rintro e' w5 ⟨rfl, B5⟩) | (go_at_call 44; with_reducible refine (HSM.out _).mono ?_; rintro e' w6 ⟨rfl, B6⟩) | (go_at_call 30; with_reducible refine (HCM.out _).mono ?_; rintro e' w7 ⟨rfl, B7⟩) | (go_at_call 33; with_reducible refine (HSU.out _).mono ?_; rintro e' w8 ⟨rfl, B8⟩) | (go_at_call 44; with_reducible refine (HSD.out _).mono ?_; rintro e' w9 ⟨rfl, B9⟩) | (go_at_call 57; refine (HCO.out _).mono ?_; rintro e' w' ⟨rfl, rfl⟩) | (go_at_call 19; refine (awake_any _).mono ?_; rintro e wz ⟨rfl, BZ⟩))
      all_goals (go_ret; exact ⟨rfl, by repeat (first | assumption | refine Below.on ?_ (by assumption))⟩)
  · by_cases h2 : eb = 0
    · have HTB2 := Lib.hid (HTB.out h2)
      have HRT2 := HRS
      subst h2
      clear HRT HTB
      go_enter Try.func15, Try.ntmps15
      go_wp2_with (first | (go_at_call 40; with_reducible refine (HTA.out _).mono ?_; rintro e' w0 ⟨rfl, B0⟩) | (go_at_call 42; with_reducible refine (HRT2.out _).mono ?_; rintro e' w1 ⟨rfl, B1⟩) | (go_at_call 42; with_reducible refine (HRS.out _).mono ?_; rintro e' w2 ⟨rfl, B2⟩) | (go_at_call 40; with_reducible refine (HTB2.out _).mono ?_; rintro e' w3 ⟨rfl, B3⟩) | (go_at_call 47; with_reducible refine (HOM.out _).mono ?_; rintro e' w4 ⟨rfl, B4⟩) | (go_at_call 47; with_reducible refine (HON.out _).mono ?_; rintro e' w5 ⟨rfl, B5⟩) | (go_at_call 44; with_reducible refine (HSM.out _).mono ?_; rintro e' w6 ⟨rfl, B6⟩) | (go_at_call 30; with_reducible refine (HCM.out _).mono ?_; rintro e' w7 ⟨rfl, B7⟩) | (go_at_call 33; with_reducible refine (HSU.out _).mono ?_; rintro e' w8 ⟨rfl, B8⟩) | (go_at_call 44; with_reducible refine (HSD.out _).mono ?_; rintro e' w9 ⟨rfl, B9⟩) | (go_at_call 57; refine (HCO.out _).mono ?_; rintro e' w' ⟨rfl, rfl⟩) | (go_at_call 19; refine (awake_any _).mono ?_; rintro e wz ⟨rfl, BZ⟩))
      all_goals (go_ret; exact ⟨rfl, by repeat (first | assumption | refine Below.on ?_ (by assumption))⟩)
    · have HRT2 := HRS
      have HTB2 := HTA
      clear HRT HTB
      go_enter Try.func15, Try.ntmps15
      go_wp2_with (first | (go_at_call 40; with_reducible refine (HTA.out _).mono ?_; rintro e' w0 ⟨rfl, B0⟩) | (go_at_call 42; with_reducible refine (HRT2.out _).mono ?_; rintro e' w1 ⟨rfl, B1⟩) | (go_at_call 42; with_reducible refine (HRS.out _).mono ?_; rintro e' w2 ⟨rfl, B2⟩) | (go_at_call 40; with_reducible refine (HTB2.out _).mono ?_; rintro e' w3 ⟨rfl, B3⟩) | (go_at_call 47; with_reducible refine (HOM.out _).mono ?_; rintro e' w4 ⟨rfl, B4⟩) | (go_at_call 47; with_reducible refine (HON.out _).mono ?_; rintro e' w5 ⟨rfl, B5⟩) | (go_at_call 44; with_reducible refine (HSM.out _).mono ?_; rintro e' w6 ⟨rfl, B6⟩) | (go_at_call 30; with_reducible refine (HCM.out _).mono ?_; rintro e' w7 ⟨rfl, B7⟩) | (go_at_call 33; with_reducible refine (HSU.out _).mono ?_; rintro e' w8 ⟨rfl, B8⟩) | (go_at_call 44; with_reducible refine (HSD.out _).mono ?_; rintro e' w9 ⟨rfl, B9⟩) | (go_at_call 57; refine (HCO.out _).mono ?_; rintro e' w' ⟨rfl, rfl⟩) | (go_at_call 19; refine (awake_any _).mono ?_; rintro e wz ⟨rfl, BZ⟩))
      all_goals (go_ret; exact ⟨rfl, by repeat (first | assumption | refine Below.on ?_ (by assumption))⟩)
theorem text_is (a : ByteArray) (ha : a.size ≤ maxLen) : ∃ t et, (∀ w : World, Calls Try.prog 40 #[.string a] w fun e' w' => e' = .returned (.tuple #[.string t, .int .i64 et]) ∧ Below w.heap.size w w') ∧ (et = 0 → ∀ w : World, Calls Try.prog 42 #[.string t] w fun e' w' => e' = .returned (.tuple #[.string a, .int .i64 0]) ∧ Below w.heap.size w w') := by
  by_cases hok : Ok a
  · refine ⟨dec (bval a), 0, fun w => ?_, fun _ w => ?_⟩
    · have := Text_any a w ha
      rw [if_pos hok] at this
      exact this
    · have hs := Sm.of_ok hok
      obtain ⟨h1, h2, h3⟩ := dec_digits hs
      refine (Read_any (dec (bval a)) (by unfold maxLen; omega) w).mono ?_
      rintro e w' ⟨⟨v, hv, rfl⟩, hb⟩
      refine ⟨?_, hb⟩
      rw [hv.eq (.inr (.inr ⟨h1, h2, rfl⟩)), h3, hs.endN, enc_bval a hok]
  · refine ⟨⟨#[]⟩, 2, fun w => ?_, fun h => by omega⟩
    have := Text_any a w ha
    rw [if_neg hok] at this
    exact this
theorem read_is (s : ByteArray) (hs : s.size ≤ maxLen) : ∃ b eb, (∀ w : World, Calls Try.prog 42 #[.string s] w fun e' w' => e' = .returned (.tuple #[.string b, .int .i64 eb]) ∧ Below w.heap.size w w') ∧ (eb = 0 → ∀ w : World, Calls Try.prog 40 #[.string b] w fun e' w' => e' = .returned (.tuple #[.string s, .int .i64 0]) ∧ Below w.heap.size w w') := by
  have key : ∀ v, readIs s v → ∀ w : World, Calls Try.prog 42 #[.string s] w fun e' w' => e' = .returned v ∧ Below w.heap.size w w' := fun v hv w => by
    refine (Read_any s hs w).mono ?_
    rintro e w' ⟨⟨v', hv', rfl⟩, hb⟩
    exact ⟨by rw [hv'.eq hv], hb⟩
  by_cases hd : DigOk s
  · by_cases hb : 49152 < s.size
    · exact ⟨⟨#[]⟩, 4, key _ (.inr (.inl ⟨hd, hb, rfl⟩)), fun h => by omega⟩
    · by_cases hsm : Sm (tval s)
      · refine ⟨enc (tval s), 0, key _ (.inr (.inr ⟨hd, by omega, hsm.endN.symm⟩)), fun _ w => ?_⟩
        have := Text_any (enc (tval s)) w hsm.size
        rw [if_pos hsm.ok, bval_enc, dec_back hd] at this
        exact this
      · exact ⟨⟨#[]⟩, 4, key _ (.inr (.inr ⟨hd, by omega, (not_sm hsm).symm⟩)), fun h => by omega⟩
  · exact ⟨⟨#[]⟩, 22, key _ (.inl ⟨hd, rfl⟩), fun h => by omega⟩
theorem small_e {N : Nat} (h : N < 18446744073709551616) (w : World) : Calls Try.prog 44 #[.string (enc N)] w fun e' w' => e' = .returned (.tuple #[.int .u64 (N : Int), .bool true]) ∧ Below w.heap.size w w' := by
  have hl : (digs 256 N).length ≤ 8 := (digs_len (by omega) N 8).2 (by omega)
  have := Small_any (enc N) w (by rw [enc_size]; unfold maxLen; omega)
  rw [if_pos ⟨ok_enc N (by omega), by rw [enc_size]; exact hl⟩, bval_enc] at this
  exact this
theorem law_NatBack (a : ByteArray) (ha : a.size ≤ 140737488351232) (s : ByteArray) (hs : s.size ≤ 140737488351232) (m : Int) (hm : 0 ≤ m ∧ m < 18446744073709551616) (n : Int) (hn : 0 ≤ n ∧ n < 18446744073709551616) (w : World) :
    Calls Try.prog 15 #[.string a, .string s, .int .u64 m, .int .u64 n] w fun e w' => e = .returned (.bool true) ∧ Below w.heap.size w w' := by
  obtain ⟨i, rfl⟩ : ∃ i : Nat, m = (i : Int) := ⟨m.toNat, by omega⟩
  obtain ⟨k, rfl⟩ : ∃ k : Nat, n = (k : Int) := ⟨n.toNat, by omega⟩
  obtain ⟨t, et, h1, h2⟩ := text_is a (by unfold maxLen; omega)
  obtain ⟨b, eb, h3, h4⟩ := read_is s (by unfold maxLen; omega)
  have si : Sm i := Sm.of_lt (k := 8) (by omega) (by omega)
  have sk : Sm k := Sm.of_lt (k := 8) (by omega) (by omega)
  have hcm : ∀ w : World, Calls Try.prog 30 #[.string (enc i), .string (enc k)] w fun e' w' => e' = .returned (.tuple #[.int .i64 (cmpN i k), .int .i64 0]) ∧ Below w.heap.size w w' := fun w => by
    have := Cmp_any (enc i) (enc k) w si.size sk.size
    rw [if_pos ⟨si.ok, sk.ok⟩, bval_enc, bval_enc] at this
    exact this
  have hsu := fun w => Sub_any (enc i) (enc k) w si.size sk.size
  rw [if_pos ⟨si.ok, sk.ok⟩, bval_enc, bval_enc] at hsu
  unfold subN at hsu
  by_cases hlt : i < k
  · rw [if_pos hlt] at hsu
    have h0 := small_e (N := 0) (by omega)
    rw [enc_zero] at h0
    exact back_less a s t b (enc i) (enc k) ⟨#[]⟩ i k 0 et eb ha hs h1 h2 h3 h4 (Of_any i (by omega)) (Of_any k (by omega)) (small_e (by omega)) (by rw [cmpN_lt hlt] at hcm; exact hcm) hsu h0 (by have := compared_any i k; rw [cmpN_lt hlt] at this; exact this) w
  · rw [if_neg hlt, (si.le (Nat.sub_le i k)).endN] at hsu
    have hco := compared_any i k
    have hv : IntKind.u64.wrap ((i : Int) - (k : Int)) = ((i - k : Nat) : Int) := by rw [IntKind.wrap_u64]; omega
    by_cases heq : i = k
    · have hc0 : cmpN i k = 0 := by unfold cmpN; rw [if_neg (by omega), if_neg (by omega)]
      rw [hc0] at hcm hco
      exact back_same a s t b (enc i) (enc k) (enc (i - k)) i k (i - k) et eb ha hs h1 h2 h3 h4 (Of_any i (by omega)) (Of_any k (by omega)) (small_e (by omega)) hcm hsu (small_e (by omega)) hco hv w
    · have hc1 : cmpN i k = 1 := by unfold cmpN; rw [if_neg (by omega), if_pos (by omega)]
      rw [hc1] at hcm hco
      exact back_more a s t b (enc i) (enc k) (enc (i - k)) i k (i - k) et eb ha hs h1 h2 h3 h4 (Of_any i (by omega)) (Of_any k (by omega)) (small_e (by omega)) hcm hsu (small_e (by omega)) hco hv w

set_option maxRecDepth 100000 in
theorem natBack_lifted (os : Os) (started : os.Started) (H : Type) (enc : TypeId × Value → H) :
    ReturnsInHanded {} Try.checked os 15 .any (Rows.natBackSpec.pre6 enc Try.prog Try.f15 Rows.natBackRow.domain false) (Rows.natBackSpec.post enc Try.prog Try.f15 false true false false) := by
  refine returnsInHanded_of_change_sized (C := Try.checked) Try.own started (by kernel_rfl) Try.func15
    (ChangeSpec.witness6 (enc := enc) (C := Try.checked) false ⟨#[], #[.string ⟨#[]⟩, .string ⟨#[]⟩, .int .u64 0, .int .u64 0], []⟩ 8 (by kernel_rfl) (by kernel_rfl) (by kernel_rfl) (by kernel_rfl)) ?_
  intro W base args ds gs before hval0 hW hcnd hsz0 _
  have hval : ∀ (j : Nat) t v, Try.f15.params[j]? = some t → args[j]? = some v → Value.okWide Try.prog W .any base t v := hval0
  have hsz : (DataW.weightsEach Try.prog (Try.f15.params.toList ++ Rows.natBackSpec.plain.varTypes Try.prog) (ds ++ gs)).all (· ≤ reachBytes) = true := hsz0
  clear hsz0
  have hW' := hW
  obtain ⟨p, q, hA0, hV, rfl, hfz, hnd⟩ := hW
  have hA : DataW.TrodAll enc Try.prog W 0 (fun _ => true) true Try.f15.params.toList args.toList ds p := hA0
  rw [Try.params15] at hA hval hsz
  obtain ⟨v0, vs0, d0, ds0, p0, q0, hargs, rfl, rfl, h0, r0⟩ := trodAll_cons hA
  obtain ⟨v1, vs1, d1, ds1, p1, q1, rfl, rfl, rfl, h1, r1⟩ := trodAll_cons r0
  obtain ⟨v2, vs2, d2, ds2, p2, q2, rfl, rfl, rfl, h2, r2⟩ := trodAll_cons r1
  obtain ⟨v3, vs3, d3, ds3, p3, q3, rfl, rfl, rfl, h3, r3⟩ := trodAll_cons r2
  obtain ⟨rfl, rfl, rfl⟩ := trodAll_nil r3
  obtain rfl : args = #[v0, v1, v2, v3] := by cases args; simp_all
  obtain ⟨rfl, rfl⟩ := trodVars_none hV
  obtain ⟨a0, rfl, rfl, rfl, wa0⟩ := open_string Try.underlying22 (hval 0 22 v0 rfl rfl) h0
  have sz0 : a0.size ≤ 140737488351232 := by
    have h := sized_string hsz (j := 0) (t := 22) rfl rfl
    rw [Array.length_toList] at h; exact h
  obtain ⟨a1, rfl, rfl, rfl, wa1⟩ := open_string Try.underlying9 (hval 1 9 v1 rfl rfl) h1
  have sz1 : a1.size ≤ 140737488351232 := by
    have h := sized_string hsz (j := 1) (t := 9) rfl rfl
    rw [Array.length_toList] at h; exact h
  obtain ⟨a2, rfl, rfl, rfl, wa2⟩ := open_int Try.underlying59 (hval 2 59 v2 rfl rfl) h2
  obtain ⟨a3, rfl, rfl, rfl, wa3⟩ := open_int Try.underlying59 (hval 3 59 v3 rfl rfl) h3
  clear hA0 hval0
  simp only [List.append_nil] at hW'
  refine (law_NatBack a0 sz0 a1 sz1 a2 (u64_bd wa2) a3 (u64_bd wa3) W).mono fun e W' ⟨he, hg⟩ => ?_
  subst he
  exact ⟨_, rfl, post_of_below (pa := []) (pv := []) hW' (fun _ _ _ => (trodAll_cons_mk (shut_bool Try.underlying4 _) trodAll_mk0)) (fun _ _ => (trodAll_cons_mk (shut_string Try.underlying22 wa0) (trodAll_cons_mk (shut_string Try.underlying9 wa1) (trodAll_cons_mk (shut_int Try.underlying59 wa2) (trodAll_cons_mk (shut_int Try.underlying59 wa3) trodAll_mk0))))) (fun _ _ => rfl) rfl
    hg (ok_one (by kernel_rfl) rfl (okWide_bool_mk Try.underlying4 _))⟩

theorem natBack_holds : Rows.NatBackSaid :=
  OpenClaim.holds_of_wide 15 Try.f15 rfl rfl rfl rfl rfl rfl rfl ⟨rfl, rfl, rfl, rfl, rfl⟩ rfl rfl rfl rfl rfl (by kernel_rfl) Try.func15 (by kernel_rfl)
    (of_decide_eq_true (by kernel_rfl)) (by unfold Func.isWrapper; rw [if_neg (of_decide_eq_false (by kernel_rfl))]; exact ⟨rfl, rfl⟩)
    (fun os started H enc _ => natBack_lifted os started H enc)
#print axioms natBack_holds

end Go.Proofs.Ytfhkpkebiinglaa
