/-
  No cell of these rows narrows 'for every input' (looked for: loops, veiled, ifaces, maps, wideKeys, modest, calm, conditions, laid).
  DERIVED. THE GIVEN ROWS OF THIS SEAT. 16 by the template 'for every input the law returns true; each argument reads behind the call as it read before'; 0 by the template 'total and deterministic' (their statements: YtfhkpkebiinglaaTotals.lean).
  GIVEN WITH THE SEED: the statements are not yours to turn. If you find one false, say at which input.
  Laid BY PROGRAM, IN A SANDBOX (cutbox-rows.mjs): the forced cells as the released guide's own fill.sh prints them over the translation f209988d84a9b069… (all of the seat's roots in one cut). By AI agents, Wed Nov 11 2026. No macro, syntax, notation, axiom, sorry.
-/
import Derived.Test.YtfhkpkebiinglaaChecked
import GoSem.Claim
import GoSem.ClaimJoined
import GoSem.ClaimMapViews
import Derived.JoinedTies
import Derived.KernelRfl
namespace Go.Proofs.Ytfhkpkebiinglaa
/- THE CELL 'sum', in the pinned program and in every row, IS THE sha256 OF THE DUMP (.gsa) THAT YtfhkpkebiinglaaProg.lean LOADS. Nothing in Lean hashes anything: it is a label: what it is worth is what the hold of that sum in a sandbox is worth. -/
noncomputable def Try.pinned : Pinned := { name := "ytfhkpkebiinglaa", sum := "f209988d84a9b069486466f1a4127b3117b70ff48868a6b89602214681cdfcb7", checked := Try.checked }
namespace Rows
def none {H : Type} : Left H := { results := [], args := [] }

/-- 'filigreelaw02.NatMul': WHATEVER THE INPUT: true; the input reads as it did. -/
def natMulSpec : ChangeSpec := { name := "natMul", fn := fun _ => fun
  | [d1, d2] => { results := [.lit (.bool true)], args := [d1, d2] }
  | _ => none }
def natMulRow : OpenClaim := { program := "ytfhkpkebiinglaa", sum := "f209988d84a9b069486466f1a4127b3117b70ff48868a6b89602214681cdfcb7", func := "filigree/filigreelaw02.NatMul", spec := "natMul", apart := false }
def NatMulSaid : Prop := natMulRow.holds Try.pinned (OpenSpec.ofChange natMulSpec)

/-- ITS FALSE NEIGHBOUR: 'it returns false'. Refute it at one input. -/
def natMulWrong : ChangeSpec := { name := "natMul", fn := fun _ => fun
  | [d1, d2] => { results := [.lit (.bool false)], args := [d1, d2] }
  | _ => none }
def NatMulWrongFalsely : Prop := natMulRow.holds Try.pinned (OpenSpec.ofChange natMulWrong)

/-- 'filigreelaw02.NatDiv': WHATEVER THE INPUT: true; the input reads as it did. -/
def natDivSpec : ChangeSpec := { name := "natDiv", fn := fun _ => fun
  | [d1, d2] => { results := [.lit (.bool true)], args := [d1, d2] }
  | _ => none }
def natDivRow : OpenClaim := { program := "ytfhkpkebiinglaa", sum := "f209988d84a9b069486466f1a4127b3117b70ff48868a6b89602214681cdfcb7", func := "filigree/filigreelaw02.NatDiv", spec := "natDiv", apart := false }
def NatDivSaid : Prop := natDivRow.holds Try.pinned (OpenSpec.ofChange natDivSpec)

/-- ITS FALSE NEIGHBOUR: 'it returns false'. Refute it at one input. -/
def natDivWrong : ChangeSpec := { name := "natDiv", fn := fun _ => fun
  | [d1, d2] => { results := [.lit (.bool false)], args := [d1, d2] }
  | _ => none }
def NatDivWrongFalsely : Prop := natDivRow.holds Try.pinned (OpenSpec.ofChange natDivWrong)

/-- 'filigreelaw02.NatGcd': WHATEVER THE INPUT: true; the input reads as it did. -/
def natGcdSpec : ChangeSpec := { name := "natGcd", fn := fun _ => fun
  | [d1, d2] => { results := [.lit (.bool true)], args := [d1, d2] }
  | _ => none }
def natGcdRow : OpenClaim := { program := "ytfhkpkebiinglaa", sum := "f209988d84a9b069486466f1a4127b3117b70ff48868a6b89602214681cdfcb7", func := "filigree/filigreelaw02.NatGcd", spec := "natGcd", apart := false }
def NatGcdSaid : Prop := natGcdRow.holds Try.pinned (OpenSpec.ofChange natGcdSpec)

/-- ITS FALSE NEIGHBOUR: 'it returns false'. Refute it at one input. -/
def natGcdWrong : ChangeSpec := { name := "natGcd", fn := fun _ => fun
  | [d1, d2] => { results := [.lit (.bool false)], args := [d1, d2] }
  | _ => none }
def NatGcdWrongFalsely : Prop := natGcdRow.holds Try.pinned (OpenSpec.ofChange natGcdWrong)

/-- 'filigreelaw02.NatDivisors': WHATEVER THE INPUT: true; the input reads as it did. -/
def natDivisorsSpec : ChangeSpec := { name := "natDivisors", fn := fun _ => fun
  | [d1, d2] => { results := [.lit (.bool true)], args := [d1, d2] }
  | _ => none }
def natDivisorsRow : OpenClaim := { program := "ytfhkpkebiinglaa", sum := "f209988d84a9b069486466f1a4127b3117b70ff48868a6b89602214681cdfcb7", func := "filigree/filigreelaw02.NatDivisors", spec := "natDivisors", apart := false }
def NatDivisorsSaid : Prop := natDivisorsRow.holds Try.pinned (OpenSpec.ofChange natDivisorsSpec)

/-- ITS FALSE NEIGHBOUR: 'it returns false'. Refute it at one input. -/
def natDivisorsWrong : ChangeSpec := { name := "natDivisors", fn := fun _ => fun
  | [d1, d2] => { results := [.lit (.bool false)], args := [d1, d2] }
  | _ => none }
def NatDivisorsWrongFalsely : Prop := natDivisorsRow.holds Try.pinned (OpenSpec.ofChange natDivisorsWrong)

/-- 'filigreelaw02.NatShift': WHATEVER THE INPUT: true; the input reads as it did. -/
def natShiftSpec : ChangeSpec := { name := "natShift", fn := fun _ => fun
  | [d1, d2] => { results := [.lit (.bool true)], args := [d1, d2] }
  | _ => none }
def natShiftRow : OpenClaim := { program := "ytfhkpkebiinglaa", sum := "f209988d84a9b069486466f1a4127b3117b70ff48868a6b89602214681cdfcb7", func := "filigree/filigreelaw02.NatShift", spec := "natShift", apart := false }
def NatShiftSaid : Prop := natShiftRow.holds Try.pinned (OpenSpec.ofChange natShiftSpec)

/-- ITS FALSE NEIGHBOUR: 'it returns false'. Refute it at one input. -/
def natShiftWrong : ChangeSpec := { name := "natShift", fn := fun _ => fun
  | [d1, d2] => { results := [.lit (.bool false)], args := [d1, d2] }
  | _ => none }
def NatShiftWrongFalsely : Prop := natShiftRow.holds Try.pinned (OpenSpec.ofChange natShiftWrong)

/-- 'filigreelaw02.NatCmp': WHATEVER THE INPUT: true; the input reads as it did. -/
def natCmpSpec : ChangeSpec := { name := "natCmp", fn := fun _ => fun
  | [d1, d2] => { results := [.lit (.bool true)], args := [d1, d2] }
  | _ => none }
def natCmpRow : OpenClaim := { program := "ytfhkpkebiinglaa", sum := "f209988d84a9b069486466f1a4127b3117b70ff48868a6b89602214681cdfcb7", func := "filigree/filigreelaw02.NatCmp", spec := "natCmp", inPlace := ["internal/bytealg.abigen_runtime_cmpstring"], apart := false }
def NatCmpSaid : Prop := natCmpRow.holds Try.pinned (OpenSpec.ofChange natCmpSpec)

/-- ITS FALSE NEIGHBOUR: 'it returns false'. Refute it at one input. -/
def natCmpWrong : ChangeSpec := { name := "natCmp", fn := fun _ => fun
  | [d1, d2] => { results := [.lit (.bool false)], args := [d1, d2] }
  | _ => none }
def NatCmpWrongFalsely : Prop := natCmpRow.holds Try.pinned (OpenSpec.ofChange natCmpWrong)

/-- 'filigreelaw02.NatSums': WHATEVER THE INPUT: true; the input reads as it did. -/
def natSumsSpec : ChangeSpec := { name := "natSums", fn := fun _ => fun
  | [d1, d2, d3] => { results := [.lit (.bool true)], args := [d1, d2, d3] }
  | _ => none }
def natSumsRow : OpenClaim := { program := "ytfhkpkebiinglaa", sum := "f209988d84a9b069486466f1a4127b3117b70ff48868a6b89602214681cdfcb7", func := "filigree/filigreelaw02.NatSums", spec := "natSums", apart := false }
def NatSumsSaid : Prop := natSumsRow.holds Try.pinned (OpenSpec.ofChange natSumsSpec)

/-- ITS FALSE NEIGHBOUR: 'it returns false'. Refute it at one input. -/
def natSumsWrong : ChangeSpec := { name := "natSums", fn := fun _ => fun
  | [d1, d2, d3] => { results := [.lit (.bool false)], args := [d1, d2, d3] }
  | _ => none }
def NatSumsWrongFalsely : Prop := natSumsRow.holds Try.pinned (OpenSpec.ofChange natSumsWrong)

/-- 'filigreelaw02.NatRing': WHATEVER THE INPUT: true; the input reads as it did. -/
def natRingSpec : ChangeSpec := { name := "natRing", fn := fun _ => fun
  | [d1, d2, d3] => { results := [.lit (.bool true)], args := [d1, d2, d3] }
  | _ => none }
def natRingRow : OpenClaim := { program := "ytfhkpkebiinglaa", sum := "f209988d84a9b069486466f1a4127b3117b70ff48868a6b89602214681cdfcb7", func := "filigree/filigreelaw02.NatRing", spec := "natRing", apart := false }
def NatRingSaid : Prop := natRingRow.holds Try.pinned (OpenSpec.ofChange natRingSpec)

/-- ITS FALSE NEIGHBOUR: 'it returns false'. Refute it at one input. -/
def natRingWrong : ChangeSpec := { name := "natRing", fn := fun _ => fun
  | [d1, d2, d3] => { results := [.lit (.bool false)], args := [d1, d2, d3] }
  | _ => none }
def NatRingWrongFalsely : Prop := natRingRow.holds Try.pinned (OpenSpec.ofChange natRingWrong)

/-- 'filigreelaw02.NatRoot': WHATEVER THE INPUT: true; the input reads as it did. -/
def natRootSpec : ChangeSpec := { name := "natRoot", fn := fun _ => fun
  | [d] => { results := [.lit (.bool true)], args := [d] }
  | _ => none }
def natRootRow : OpenClaim := { program := "ytfhkpkebiinglaa", sum := "f209988d84a9b069486466f1a4127b3117b70ff48868a6b89602214681cdfcb7", func := "filigree/filigreelaw02.NatRoot", spec := "natRoot", apart := false }
def NatRootSaid : Prop := natRootRow.holds Try.pinned (OpenSpec.ofChange natRootSpec)

/-- ITS FALSE NEIGHBOUR: 'it returns false'. Refute it at one input. -/
def natRootWrong : ChangeSpec := { name := "natRoot", fn := fun _ => fun
  | [d] => { results := [.lit (.bool false)], args := [d] }
  | _ => none }
def NatRootWrongFalsely : Prop := natRootRow.holds Try.pinned (OpenSpec.ofChange natRootWrong)

/-- 'filigreelaw02.NatTexts': WHATEVER THE INPUT: true; the input reads as it did. -/
def natTextsSpec : ChangeSpec := { name := "natTexts", fn := fun _ => fun
  | [d1, d2] => { results := [.lit (.bool true)], args := [d1, d2] }
  | _ => none }
def natTextsRow : OpenClaim := { program := "ytfhkpkebiinglaa", sum := "f209988d84a9b069486466f1a4127b3117b70ff48868a6b89602214681cdfcb7", func := "filigree/filigreelaw02.NatTexts", spec := "natTexts", apart := false }
def NatTextsSaid : Prop := natTextsRow.holds Try.pinned (OpenSpec.ofChange natTextsSpec)

/-- ITS FALSE NEIGHBOUR: 'it returns false'. Refute it at one input. -/
def natTextsWrong : ChangeSpec := { name := "natTexts", fn := fun _ => fun
  | [d1, d2] => { results := [.lit (.bool false)], args := [d1, d2] }
  | _ => none }
def NatTextsWrongFalsely : Prop := natTextsRow.holds Try.pinned (OpenSpec.ofChange natTextsWrong)

/-- 'filigreelaw02.NatOne': WHATEVER THE INPUT: true; the input reads as it did. -/
def natOneSpec : ChangeSpec := { name := "natOne", fn := fun _ => fun
  | [d1, d2, d3] => { results := [.lit (.bool true)], args := [d1, d2, d3] }
  | _ => none }
def natOneRow : OpenClaim := { program := "ytfhkpkebiinglaa", sum := "f209988d84a9b069486466f1a4127b3117b70ff48868a6b89602214681cdfcb7", func := "filigree/filigreelaw02.NatOne", spec := "natOne", apart := false }
def NatOneSaid : Prop := natOneRow.holds Try.pinned (OpenSpec.ofChange natOneSpec)

/-- ITS FALSE NEIGHBOUR: 'it returns false'. Refute it at one input. -/
def natOneWrong : ChangeSpec := { name := "natOne", fn := fun _ => fun
  | [d1, d2, d3] => { results := [.lit (.bool false)], args := [d1, d2, d3] }
  | _ => none }
def NatOneWrongFalsely : Prop := natOneRow.holds Try.pinned (OpenSpec.ofChange natOneWrong)

/-- 'filigreelaw02.NatPow': WHATEVER THE INPUT: true; the input reads as it did. -/
def natPowSpec : ChangeSpec := { name := "natPow", fn := fun _ => fun
  | [d1, d2] => { results := [.lit (.bool true)], args := [d1, d2] }
  | _ => none }
def natPowRow : OpenClaim := { program := "ytfhkpkebiinglaa", sum := "f209988d84a9b069486466f1a4127b3117b70ff48868a6b89602214681cdfcb7", func := "filigree/filigreelaw02.NatPow", spec := "natPow", apart := false }
def NatPowSaid : Prop := natPowRow.holds Try.pinned (OpenSpec.ofChange natPowSpec)

/-- ITS FALSE NEIGHBOUR: 'it returns false'. Refute it at one input. -/
def natPowWrong : ChangeSpec := { name := "natPow", fn := fun _ => fun
  | [d1, d2] => { results := [.lit (.bool false)], args := [d1, d2] }
  | _ => none }
def NatPowWrongFalsely : Prop := natPowRow.holds Try.pinned (OpenSpec.ofChange natPowWrong)

/-- 'filigreelaw02.NatBack': WHATEVER THE INPUT: true; the input reads as it did. -/
def natBackSpec : ChangeSpec := { name := "natBack", fn := fun _ => fun
  | [d1, d2, d3, d4] => { results := [.lit (.bool true)], args := [d1, d2, d3, d4] }
  | _ => none }
def natBackRow : OpenClaim := { program := "ytfhkpkebiinglaa", sum := "f209988d84a9b069486466f1a4127b3117b70ff48868a6b89602214681cdfcb7", func := "filigree/filigreelaw02.NatBack", spec := "natBack", inPlace := ["internal/bytealg.abigen_runtime_cmpstring"], apart := false }
def NatBackSaid : Prop := natBackRow.holds Try.pinned (OpenSpec.ofChange natBackSpec)

/-- ITS FALSE NEIGHBOUR: 'it returns false'. Refute it at one input. -/
def natBackWrong : ChangeSpec := { name := "natBack", fn := fun _ => fun
  | [d1, d2, d3, d4] => { results := [.lit (.bool false)], args := [d1, d2, d3, d4] }
  | _ => none }
def NatBackWrongFalsely : Prop := natBackRow.holds Try.pinned (OpenSpec.ofChange natBackWrong)

/-- 'filigreelaw02.NatShifts': WHATEVER THE INPUT: true; the input reads as it did. -/
def natShiftsSpec : ChangeSpec := { name := "natShifts", fn := fun _ => fun
  | [d1, d2, d3] => { results := [.lit (.bool true)], args := [d1, d2, d3] }
  | _ => none }
def natShiftsRow : OpenClaim := { program := "ytfhkpkebiinglaa", sum := "f209988d84a9b069486466f1a4127b3117b70ff48868a6b89602214681cdfcb7", func := "filigree/filigreelaw02.NatShifts", spec := "natShifts", apart := false }
def NatShiftsSaid : Prop := natShiftsRow.holds Try.pinned (OpenSpec.ofChange natShiftsSpec)

/-- ITS FALSE NEIGHBOUR: 'it returns false'. Refute it at one input. -/
def natShiftsWrong : ChangeSpec := { name := "natShifts", fn := fun _ => fun
  | [d1, d2, d3] => { results := [.lit (.bool false)], args := [d1, d2, d3] }
  | _ => none }
def NatShiftsWrongFalsely : Prop := natShiftsRow.holds Try.pinned (OpenSpec.ofChange natShiftsWrong)

/-- 'filigreelaw02.NatDivision': WHATEVER THE INPUT: true; the input reads as it did. -/
def natDivisionSpec : ChangeSpec := { name := "natDivision", fn := fun _ => fun
  | [d1, d2] => { results := [.lit (.bool true)], args := [d1, d2] }
  | _ => none }
def natDivisionRow : OpenClaim := { program := "ytfhkpkebiinglaa", sum := "f209988d84a9b069486466f1a4127b3117b70ff48868a6b89602214681cdfcb7", func := "filigree/filigreelaw02.NatDivision", spec := "natDivision", inPlace := ["internal/bytealg.abigen_runtime_cmpstring"], apart := false }
def NatDivisionSaid : Prop := natDivisionRow.holds Try.pinned (OpenSpec.ofChange natDivisionSpec)

/-- ITS FALSE NEIGHBOUR: 'it returns false'. Refute it at one input. -/
def natDivisionWrong : ChangeSpec := { name := "natDivision", fn := fun _ => fun
  | [d1, d2] => { results := [.lit (.bool false)], args := [d1, d2] }
  | _ => none }
def NatDivisionWrongFalsely : Prop := natDivisionRow.holds Try.pinned (OpenSpec.ofChange natDivisionWrong)

/-- 'filigreelaw02.NatLong': WHATEVER THE INPUT: true; the input reads as it did. -/
def natLongSpec : ChangeSpec := { name := "natLong", fn := fun _ => fun
  | [] => { results := [.lit (.bool true)], args := [] }
  | _ => none }
def natLongRow : OpenClaim := { program := "ytfhkpkebiinglaa", sum := "f209988d84a9b069486466f1a4127b3117b70ff48868a6b89602214681cdfcb7", func := "filigree/filigreelaw02.NatLong", spec := "natLong", apart := false }
def NatLongSaid : Prop := natLongRow.holds Try.pinned (OpenSpec.ofChange natLongSpec)

/-- ITS FALSE NEIGHBOUR: 'it returns false'. Refute it at one input. -/
def natLongWrong : ChangeSpec := { name := "natLong", fn := fun _ => fun
  | [] => { results := [.lit (.bool false)], args := [] }
  | _ => none }
def NatLongWrongFalsely : Prop := natLongRow.holds Try.pinned (OpenSpec.ofChange natLongWrong)

/- THE SECOND FORM. 'bulk': how many values and letters a reading holds, each counted each time it is reached (what is shared counts as often as it is met; a slice's spare places count too). A statement '..UptoSaid' is the law's where the arguments, and the package variables that the reading takes, are together of bulk at most 1048576: NARROWER than '..Said'. Prove '..Said' where nothing that the law and all that it calls make is longer than what came in: it says more and counts as full. Else prove '..UptoSaid'. A law counts once. -/
mutual
def uptoBulk {H : Type} : DataW H → Nat
  | .lit (.string bytes) => bytes.length + 1
  | .lit _ => 1
  | .nil => 1
  | .ptr d => uptoBulk d + 1
  | .slice elems spare => uptoBulkAll elems + uptoBulkAll spare + 1
  | .agg parts => uptoBulkAll parts + 1
  | .iface _ d => uptoBulk d + 1
  | .map entries => uptoBulkEntries entries + 1
  | .held _ => 1
def uptoBulkAll {H : Type} : List (DataW H) → Nat
  | [] => 0
  | d :: r => uptoBulk d + uptoBulkAll r
def uptoBulkEntries {H : Type} : List (Lit × DataW H) → Nat
  | [] => 0
  | x :: r => uptoBulkEntry x + uptoBulkEntries r
def uptoBulkEntry {H : Type} : Lit × DataW H → Nat
  | (.string bytes, d) => bytes.length + uptoBulk d + 1
  | (_, d) => uptoBulk d + 1
 end
def uptoSmall : (H : Type) → List (DataW H) → Bool := fun _ ds => decide (uptoBulkAll ds ≤ 1048576)
def OpenSpec.upto (s : _root_.Go.ChangeSpec) : _root_.Go.OpenSpec := { _root_.Go.OpenSpec.ofChange s with cond := some uptoSmall }

/-- 'filigreelaw02.NatMul', WHERE WHAT IT READS IS OF BULK AT MOST 1048576: true; the input reads as it did. -/
def natMulUptoRow : OpenClaim := { program := "ytfhkpkebiinglaa", sum := "f209988d84a9b069486466f1a4127b3117b70ff48868a6b89602214681cdfcb7", func := "filigree/filigreelaw02.NatMul", spec := "natMul", apart := false, narrowed := true }
def NatMulUptoSaid : Prop := natMulUptoRow.holds Try.pinned (OpenSpec.upto natMulSpec)

/-- 'filigreelaw02.NatDiv', WHERE WHAT IT READS IS OF BULK AT MOST 1048576: true; the input reads as it did. -/
def natDivUptoRow : OpenClaim := { program := "ytfhkpkebiinglaa", sum := "f209988d84a9b069486466f1a4127b3117b70ff48868a6b89602214681cdfcb7", func := "filigree/filigreelaw02.NatDiv", spec := "natDiv", apart := false, narrowed := true }
def NatDivUptoSaid : Prop := natDivUptoRow.holds Try.pinned (OpenSpec.upto natDivSpec)

/-- 'filigreelaw02.NatGcd', WHERE WHAT IT READS IS OF BULK AT MOST 1048576: true; the input reads as it did. -/
def natGcdUptoRow : OpenClaim := { program := "ytfhkpkebiinglaa", sum := "f209988d84a9b069486466f1a4127b3117b70ff48868a6b89602214681cdfcb7", func := "filigree/filigreelaw02.NatGcd", spec := "natGcd", apart := false, narrowed := true }
def NatGcdUptoSaid : Prop := natGcdUptoRow.holds Try.pinned (OpenSpec.upto natGcdSpec)

/-- 'filigreelaw02.NatDivisors', WHERE WHAT IT READS IS OF BULK AT MOST 1048576: true; the input reads as it did. -/
def natDivisorsUptoRow : OpenClaim := { program := "ytfhkpkebiinglaa", sum := "f209988d84a9b069486466f1a4127b3117b70ff48868a6b89602214681cdfcb7", func := "filigree/filigreelaw02.NatDivisors", spec := "natDivisors", apart := false, narrowed := true }
def NatDivisorsUptoSaid : Prop := natDivisorsUptoRow.holds Try.pinned (OpenSpec.upto natDivisorsSpec)

/-- 'filigreelaw02.NatShift', WHERE WHAT IT READS IS OF BULK AT MOST 1048576: true; the input reads as it did. -/
def natShiftUptoRow : OpenClaim := { program := "ytfhkpkebiinglaa", sum := "f209988d84a9b069486466f1a4127b3117b70ff48868a6b89602214681cdfcb7", func := "filigree/filigreelaw02.NatShift", spec := "natShift", apart := false, narrowed := true }
def NatShiftUptoSaid : Prop := natShiftUptoRow.holds Try.pinned (OpenSpec.upto natShiftSpec)

/-- 'filigreelaw02.NatCmp', WHERE WHAT IT READS IS OF BULK AT MOST 1048576: true; the input reads as it did. -/
def natCmpUptoRow : OpenClaim := { program := "ytfhkpkebiinglaa", sum := "f209988d84a9b069486466f1a4127b3117b70ff48868a6b89602214681cdfcb7", func := "filigree/filigreelaw02.NatCmp", spec := "natCmp", inPlace := ["internal/bytealg.abigen_runtime_cmpstring"], apart := false, narrowed := true }
def NatCmpUptoSaid : Prop := natCmpUptoRow.holds Try.pinned (OpenSpec.upto natCmpSpec)

/-- 'filigreelaw02.NatSums', WHERE WHAT IT READS IS OF BULK AT MOST 1048576: true; the input reads as it did. -/
def natSumsUptoRow : OpenClaim := { program := "ytfhkpkebiinglaa", sum := "f209988d84a9b069486466f1a4127b3117b70ff48868a6b89602214681cdfcb7", func := "filigree/filigreelaw02.NatSums", spec := "natSums", apart := false, narrowed := true }
def NatSumsUptoSaid : Prop := natSumsUptoRow.holds Try.pinned (OpenSpec.upto natSumsSpec)

/-- 'filigreelaw02.NatRing', WHERE WHAT IT READS IS OF BULK AT MOST 1048576: true; the input reads as it did. -/
def natRingUptoRow : OpenClaim := { program := "ytfhkpkebiinglaa", sum := "f209988d84a9b069486466f1a4127b3117b70ff48868a6b89602214681cdfcb7", func := "filigree/filigreelaw02.NatRing", spec := "natRing", apart := false, narrowed := true }
def NatRingUptoSaid : Prop := natRingUptoRow.holds Try.pinned (OpenSpec.upto natRingSpec)

/-- 'filigreelaw02.NatRoot', WHERE WHAT IT READS IS OF BULK AT MOST 1048576: true; the input reads as it did. -/
def natRootUptoRow : OpenClaim := { program := "ytfhkpkebiinglaa", sum := "f209988d84a9b069486466f1a4127b3117b70ff48868a6b89602214681cdfcb7", func := "filigree/filigreelaw02.NatRoot", spec := "natRoot", apart := false, narrowed := true }
def NatRootUptoSaid : Prop := natRootUptoRow.holds Try.pinned (OpenSpec.upto natRootSpec)

/-- 'filigreelaw02.NatTexts', WHERE WHAT IT READS IS OF BULK AT MOST 1048576: true; the input reads as it did. -/
def natTextsUptoRow : OpenClaim := { program := "ytfhkpkebiinglaa", sum := "f209988d84a9b069486466f1a4127b3117b70ff48868a6b89602214681cdfcb7", func := "filigree/filigreelaw02.NatTexts", spec := "natTexts", apart := false, narrowed := true }
def NatTextsUptoSaid : Prop := natTextsUptoRow.holds Try.pinned (OpenSpec.upto natTextsSpec)

/-- 'filigreelaw02.NatOne', WHERE WHAT IT READS IS OF BULK AT MOST 1048576: true; the input reads as it did. -/
def natOneUptoRow : OpenClaim := { program := "ytfhkpkebiinglaa", sum := "f209988d84a9b069486466f1a4127b3117b70ff48868a6b89602214681cdfcb7", func := "filigree/filigreelaw02.NatOne", spec := "natOne", apart := false, narrowed := true }
def NatOneUptoSaid : Prop := natOneUptoRow.holds Try.pinned (OpenSpec.upto natOneSpec)

/-- 'filigreelaw02.NatPow', WHERE WHAT IT READS IS OF BULK AT MOST 1048576: true; the input reads as it did. -/
def natPowUptoRow : OpenClaim := { program := "ytfhkpkebiinglaa", sum := "f209988d84a9b069486466f1a4127b3117b70ff48868a6b89602214681cdfcb7", func := "filigree/filigreelaw02.NatPow", spec := "natPow", apart := false, narrowed := true }
def NatPowUptoSaid : Prop := natPowUptoRow.holds Try.pinned (OpenSpec.upto natPowSpec)

/-- 'filigreelaw02.NatBack', WHERE WHAT IT READS IS OF BULK AT MOST 1048576: true; the input reads as it did. -/
def natBackUptoRow : OpenClaim := { program := "ytfhkpkebiinglaa", sum := "f209988d84a9b069486466f1a4127b3117b70ff48868a6b89602214681cdfcb7", func := "filigree/filigreelaw02.NatBack", spec := "natBack", inPlace := ["internal/bytealg.abigen_runtime_cmpstring"], apart := false, narrowed := true }
def NatBackUptoSaid : Prop := natBackUptoRow.holds Try.pinned (OpenSpec.upto natBackSpec)

/-- 'filigreelaw02.NatShifts', WHERE WHAT IT READS IS OF BULK AT MOST 1048576: true; the input reads as it did. -/
def natShiftsUptoRow : OpenClaim := { program := "ytfhkpkebiinglaa", sum := "f209988d84a9b069486466f1a4127b3117b70ff48868a6b89602214681cdfcb7", func := "filigree/filigreelaw02.NatShifts", spec := "natShifts", apart := false, narrowed := true }
def NatShiftsUptoSaid : Prop := natShiftsUptoRow.holds Try.pinned (OpenSpec.upto natShiftsSpec)

/-- 'filigreelaw02.NatDivision', WHERE WHAT IT READS IS OF BULK AT MOST 1048576: true; the input reads as it did. -/
def natDivisionUptoRow : OpenClaim := { program := "ytfhkpkebiinglaa", sum := "f209988d84a9b069486466f1a4127b3117b70ff48868a6b89602214681cdfcb7", func := "filigree/filigreelaw02.NatDivision", spec := "natDivision", inPlace := ["internal/bytealg.abigen_runtime_cmpstring"], apart := false, narrowed := true }
def NatDivisionUptoSaid : Prop := natDivisionUptoRow.holds Try.pinned (OpenSpec.upto natDivisionSpec)

/-- 'filigreelaw02.NatLong', WHERE WHAT IT READS IS OF BULK AT MOST 1048576: true; the input reads as it did. -/
def natLongUptoRow : OpenClaim := { program := "ytfhkpkebiinglaa", sum := "f209988d84a9b069486466f1a4127b3117b70ff48868a6b89602214681cdfcb7", func := "filigree/filigreelaw02.NatLong", spec := "natLong", apart := false, narrowed := true }
def NatLongUptoSaid : Prop := natLongUptoRow.holds Try.pinned (OpenSpec.upto natLongSpec)

end Rows
end Go.Proofs.Ytfhkpkebiinglaa
