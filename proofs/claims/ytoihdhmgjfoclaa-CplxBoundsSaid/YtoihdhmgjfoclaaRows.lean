/-
  No cell of these rows narrows 'for every input' (looked for: loops, veiled, ifaces, maps, wideKeys, modest, calm, conditions, laid).
  DERIVED. THE GIVEN ROWS OF THIS SEAT. 10 by the template 'for every input the law returns true; each argument reads behind the call as it read before'; 0 by the template 'total and deterministic' (their statements: YtoihdhmgjfoclaaTotals.lean).
  GIVEN WITH THE SEED: the statements are not yours to turn. If you find one false, say at which input.
  Laid BY PROGRAM, IN A SANDBOX (cutbox-rows.mjs): the forced cells as the released guide's own fill.sh prints them over the translation 98490725210406a8… (all of the seat's roots in one cut). By AI agents, Wed Nov 11 2026. No macro, syntax, notation, axiom, sorry.
-/
import Derived.Test.YtoihdhmgjfoclaaChecked
import GoSem.Claim
import GoSem.ClaimJoined
import GoSem.ClaimMapViews
import Derived.JoinedTies
import Derived.KernelRfl
namespace Go.Proofs.Ytoihdhmgjfoclaa
/- THE CELL 'sum', in the pinned program and in every row, IS THE sha256 OF THE DUMP (.gsa) THAT YtoihdhmgjfoclaaProg.lean LOADS. Nothing in Lean hashes anything: it is a label: what it is worth is what the hold of that sum in a sandbox is worth. -/
noncomputable def Try.pinned : Pinned := { name := "ytoihdhmgjfoclaa", sum := "98490725210406a8d1c2357c32e71b6f964226333f26f7b83805e7cdd7e3cb35", checked := Try.checked }
namespace Rows
def none {H : Type} : Left H := { results := [], args := [] }

/-- 'filigreelaw05.CplxSizes': WHATEVER THE INPUT: true; the input reads as it did. -/
def cplxSizesSpec : ChangeSpec := { name := "cplxSizes", fn := fun _ => fun
  | [d] => { results := [.lit (.bool true)], args := [d] }
  | _ => none }
def cplxSizesRow : OpenClaim := { program := "ytoihdhmgjfoclaa", sum := "98490725210406a8d1c2357c32e71b6f964226333f26f7b83805e7cdd7e3cb35", func := "filigree/filigreelaw05.CplxSizes", spec := "cplxSizes", inPlace := ["math.Float64frombits", "math.Float64bits", "math.sqrt"], unfollowed := true, recurses := true, apart := false }
def CplxSizesSaid : Prop := cplxSizesRow.holds Try.pinned (OpenSpec.ofChange cplxSizesSpec)

/-- ITS FALSE NEIGHBOUR: 'it returns false'. Refute it at one input. -/
def cplxSizesWrong : ChangeSpec := { name := "cplxSizes", fn := fun _ => fun
  | [d] => { results := [.lit (.bool false)], args := [d] }
  | _ => none }
def CplxSizesWrongFalsely : Prop := cplxSizesRow.holds Try.pinned (OpenSpec.ofChange cplxSizesWrong)

/-- 'filigreelaw05.CplxScale': WHATEVER THE INPUT: true; the input reads as it did. -/
def cplxScaleSpec : ChangeSpec := { name := "cplxScale", fn := fun _ => fun
  | [d1, d2] => { results := [.lit (.bool true)], args := [d1, d2] }
  | _ => none }
def cplxScaleRow : OpenClaim := { program := "ytoihdhmgjfoclaa", sum := "98490725210406a8d1c2357c32e71b6f964226333f26f7b83805e7cdd7e3cb35", func := "filigree/filigreelaw05.CplxScale", spec := "cplxScale", inPlace := ["math.Float64frombits", "math.Float64bits", "math.sqrt"], unfollowed := true, recurses := true, apart := false }
def CplxScaleSaid : Prop := cplxScaleRow.holds Try.pinned (OpenSpec.ofChange cplxScaleSpec)

/-- ITS FALSE NEIGHBOUR: 'it returns false'. Refute it at one input. -/
def cplxScaleWrong : ChangeSpec := { name := "cplxScale", fn := fun _ => fun
  | [d1, d2] => { results := [.lit (.bool false)], args := [d1, d2] }
  | _ => none }
def CplxScaleWrongFalsely : Prop := cplxScaleRow.holds Try.pinned (OpenSpec.ofChange cplxScaleWrong)

/-- 'filigreelaw05.CplxSigns': WHATEVER THE INPUT: true; the input reads as it did. -/
def cplxSignsSpec : ChangeSpec := { name := "cplxSigns", fn := fun _ => fun
  | [d1, d2] => { results := [.lit (.bool true)], args := [d1, d2] }
  | _ => none }
def cplxSignsRow : OpenClaim := { program := "ytoihdhmgjfoclaa", sum := "98490725210406a8d1c2357c32e71b6f964226333f26f7b83805e7cdd7e3cb35", func := "filigree/filigreelaw05.CplxSigns", spec := "cplxSigns", inPlace := ["math.Float64frombits", "math.Float64bits", "math.sqrt"], unfollowed := true, recurses := true, apart := false }
def CplxSignsSaid : Prop := cplxSignsRow.holds Try.pinned (OpenSpec.ofChange cplxSignsSpec)

/-- ITS FALSE NEIGHBOUR: 'it returns false'. Refute it at one input. -/
def cplxSignsWrong : ChangeSpec := { name := "cplxSigns", fn := fun _ => fun
  | [d1, d2] => { results := [.lit (.bool false)], args := [d1, d2] }
  | _ => none }
def CplxSignsWrongFalsely : Prop := cplxSignsRow.holds Try.pinned (OpenSpec.ofChange cplxSignsWrong)

/-- 'filigreelaw05.CplxNarrow': WHATEVER THE INPUT: true; the input reads as it did. -/
def cplxNarrowSpec : ChangeSpec := { name := "cplxNarrow", fn := fun _ => fun
  | [d1, d2, d3, d4, d5] => { results := [.lit (.bool true)], args := [d1, d2, d3, d4, d5] }
  | _ => none }
def cplxNarrowRow : OpenClaim := { program := "ytoihdhmgjfoclaa", sum := "98490725210406a8d1c2357c32e71b6f964226333f26f7b83805e7cdd7e3cb35", func := "filigree/filigreelaw05.CplxNarrow", spec := "cplxNarrow", inPlace := ["math.Float64frombits", "math.Float32frombits", "math.Float64bits", "math.sqrt"], unfollowed := true, recurses := true, apart := false }
def CplxNarrowSaid : Prop := cplxNarrowRow.holds Try.pinned (OpenSpec.ofChange cplxNarrowSpec)

/-- ITS FALSE NEIGHBOUR: 'it returns false'. Refute it at one input. -/
def cplxNarrowWrong : ChangeSpec := { name := "cplxNarrow", fn := fun _ => fun
  | [d1, d2, d3, d4, d5] => { results := [.lit (.bool false)], args := [d1, d2, d3, d4, d5] }
  | _ => none }
def CplxNarrowWrongFalsely : Prop := cplxNarrowRow.holds Try.pinned (OpenSpec.ofChange cplxNarrowWrong)

/-- 'filigreelaw05.CplxLists': WHATEVER THE INPUT: true; the input reads as it did. -/
def cplxListsSpec : ChangeSpec := { name := "cplxLists", fn := fun _ => fun
  | [d1, d2] => { results := [.lit (.bool true)], args := [d1, d2] }
  | _ => none }
def cplxListsRow : OpenClaim := { program := "ytoihdhmgjfoclaa", sum := "98490725210406a8d1c2357c32e71b6f964226333f26f7b83805e7cdd7e3cb35", func := "filigree/filigreelaw05.CplxLists", spec := "cplxLists", inPlace := ["math.Float64frombits", "math.Float64bits", "math.sqrt"], unfollowed := true, recurses := true, apart := false }
def CplxListsSaid : Prop := cplxListsRow.holds Try.pinned (OpenSpec.ofChange cplxListsSpec)

/-- ITS FALSE NEIGHBOUR: 'it returns false'. Refute it at one input. -/
def cplxListsWrong : ChangeSpec := { name := "cplxLists", fn := fun _ => fun
  | [d1, d2] => { results := [.lit (.bool false)], args := [d1, d2] }
  | _ => none }
def CplxListsWrongFalsely : Prop := cplxListsRow.holds Try.pinned (OpenSpec.ofChange cplxListsWrong)

/-- 'filigreelaw05.CplxGo': WHATEVER THE INPUT: true; the input reads as it did. -/
def cplxGoSpec : ChangeSpec := { name := "cplxGo", fn := fun _ => fun
  | [d1, d2] => { results := [.lit (.bool true)], args := [d1, d2] }
  | _ => none }
def cplxGoRow : OpenClaim := { program := "ytoihdhmgjfoclaa", sum := "98490725210406a8d1c2357c32e71b6f964226333f26f7b83805e7cdd7e3cb35", func := "filigree/filigreelaw05.CplxGo", spec := "cplxGo", inPlace := ["math.Float64frombits", "math.Float64bits", "math.sqrt"], unfollowed := true, recurses := true, apart := false }
def CplxGoSaid : Prop := cplxGoRow.holds Try.pinned (OpenSpec.ofChange cplxGoSpec)

/-- ITS FALSE NEIGHBOUR: 'it returns false'. Refute it at one input. -/
def cplxGoWrong : ChangeSpec := { name := "cplxGo", fn := fun _ => fun
  | [d1, d2] => { results := [.lit (.bool false)], args := [d1, d2] }
  | _ => none }
def CplxGoWrongFalsely : Prop := cplxGoRow.holds Try.pinned (OpenSpec.ofChange cplxGoWrong)

/-- 'filigreelaw05.CplxOne': WHATEVER THE INPUT: true; the input reads as it did. -/
def cplxOneSpec : ChangeSpec := { name := "cplxOne", fn := fun _ => fun
  | [d] => { results := [.lit (.bool true)], args := [d] }
  | _ => none }
def cplxOneRow : OpenClaim := { program := "ytoihdhmgjfoclaa", sum := "98490725210406a8d1c2357c32e71b6f964226333f26f7b83805e7cdd7e3cb35", func := "filigree/filigreelaw05.CplxOne", spec := "cplxOne", inPlace := ["math.Float64frombits", "math.Float64bits", "math.sqrt"], unfollowed := true, recurses := true, apart := false }
def CplxOneSaid : Prop := cplxOneRow.holds Try.pinned (OpenSpec.ofChange cplxOneSpec)

/-- ITS FALSE NEIGHBOUR: 'it returns false'. Refute it at one input. -/
def cplxOneWrong : ChangeSpec := { name := "cplxOne", fn := fun _ => fun
  | [d] => { results := [.lit (.bool false)], args := [d] }
  | _ => none }
def CplxOneWrongFalsely : Prop := cplxOneRow.holds Try.pinned (OpenSpec.ofChange cplxOneWrong)

/-- 'filigreelaw05.CplxOrder': WHATEVER THE INPUT: true; the input reads as it did. -/
def cplxOrderSpec : ChangeSpec := { name := "cplxOrder", fn := fun _ => fun
  | [d1, d2, d3] => { results := [.lit (.bool true)], args := [d1, d2, d3] }
  | _ => none }
def cplxOrderRow : OpenClaim := { program := "ytoihdhmgjfoclaa", sum := "98490725210406a8d1c2357c32e71b6f964226333f26f7b83805e7cdd7e3cb35", func := "filigree/filigreelaw05.CplxOrder", spec := "cplxOrder", inPlace := ["math.Float64frombits", "math.Float64bits", "math.sqrt"], unfollowed := true, recurses := true, apart := false }
def CplxOrderSaid : Prop := cplxOrderRow.holds Try.pinned (OpenSpec.ofChange cplxOrderSpec)

/-- ITS FALSE NEIGHBOUR: 'it returns false'. Refute it at one input. -/
def cplxOrderWrong : ChangeSpec := { name := "cplxOrder", fn := fun _ => fun
  | [d1, d2, d3] => { results := [.lit (.bool false)], args := [d1, d2, d3] }
  | _ => none }
def CplxOrderWrongFalsely : Prop := cplxOrderRow.holds Try.pinned (OpenSpec.ofChange cplxOrderWrong)

/-- 'filigreelaw05.CplxTwo': WHATEVER THE INPUT: true; the input reads as it did. -/
def cplxTwoSpec : ChangeSpec := { name := "cplxTwo", fn := fun _ => fun
  | [d1, d2] => { results := [.lit (.bool true)], args := [d1, d2] }
  | _ => none }
def cplxTwoRow : OpenClaim := { program := "ytoihdhmgjfoclaa", sum := "98490725210406a8d1c2357c32e71b6f964226333f26f7b83805e7cdd7e3cb35", func := "filigree/filigreelaw05.CplxTwo", spec := "cplxTwo", inPlace := ["math.Float64frombits", "math.Float64bits", "math.sqrt"], unfollowed := true, recurses := true, apart := false }
def CplxTwoSaid : Prop := cplxTwoRow.holds Try.pinned (OpenSpec.ofChange cplxTwoSpec)

/-- ITS FALSE NEIGHBOUR: 'it returns false'. Refute it at one input. -/
def cplxTwoWrong : ChangeSpec := { name := "cplxTwo", fn := fun _ => fun
  | [d1, d2] => { results := [.lit (.bool false)], args := [d1, d2] }
  | _ => none }
def CplxTwoWrongFalsely : Prop := cplxTwoRow.holds Try.pinned (OpenSpec.ofChange cplxTwoWrong)

/-- 'filigreelaw05.CplxBounds': WHATEVER THE INPUT: true; the input reads as it did. -/
def cplxBoundsSpec : ChangeSpec := { name := "cplxBounds", fn := fun _ => fun
  | [d] => { results := [.lit (.bool true)], args := [d] }
  | _ => none }
def cplxBoundsRow : OpenClaim := { program := "ytoihdhmgjfoclaa", sum := "98490725210406a8d1c2357c32e71b6f964226333f26f7b83805e7cdd7e3cb35", func := "filigree/filigreelaw05.CplxBounds", spec := "cplxBounds", inPlace := ["math.Float64frombits", "math.Float64bits", "math.sqrt"], unfollowed := true, recurses := true, apart := false }
def CplxBoundsSaid : Prop := cplxBoundsRow.holds Try.pinned (OpenSpec.ofChange cplxBoundsSpec)

/-- ITS FALSE NEIGHBOUR: 'it returns false'. Refute it at one input. -/
def cplxBoundsWrong : ChangeSpec := { name := "cplxBounds", fn := fun _ => fun
  | [d] => { results := [.lit (.bool false)], args := [d] }
  | _ => none }
def CplxBoundsWrongFalsely : Prop := cplxBoundsRow.holds Try.pinned (OpenSpec.ofChange cplxBoundsWrong)

/- THE SECOND FORM. 'bulk': how many values and letters a reading holds, each counted each time it is reached (what is shared counts as often as it is met; a slice's spare places count too). A statement '..UptoSaid' is the law's where the arguments, and the package variables that the reading takes, are together of bulk at most 1048576: NARROWER than '..Said'. Prove '..Said' where nothing that the law and all that it calls make is longer than what came in: it says more and counts as full. Else prove '..UptoSaid'. A law counts once. -/
mutual
def uptoBulk {H : Type} : DataW H → Nat
  | .lit (.string bytes) => bytes.length + 1
  | .lit _ => 1
  | .nil => 1
  | .ptr d => uptoBulk d + 1
  | .slice elems spare => uptoBulkAll elems + uptoBulkAll spare + 1
  | .agg parts => uptoBulkAll parts + 1
  | .iface _ d => uptoBulk d + 1
  | .map entries => uptoBulkEntries entries + 1
  | .held _ => 1
def uptoBulkAll {H : Type} : List (DataW H) → Nat
  | [] => 0
  | d :: r => uptoBulk d + uptoBulkAll r
def uptoBulkEntries {H : Type} : List (Lit × DataW H) → Nat
  | [] => 0
  | x :: r => uptoBulkEntry x + uptoBulkEntries r
def uptoBulkEntry {H : Type} : Lit × DataW H → Nat
  | (.string bytes, d) => bytes.length + uptoBulk d + 1
  | (_, d) => uptoBulk d + 1
 end
def uptoSmall : (H : Type) → List (DataW H) → Bool := fun _ ds => decide (uptoBulkAll ds ≤ 1048576)
def OpenSpec.upto (s : _root_.Go.ChangeSpec) : _root_.Go.OpenSpec := { _root_.Go.OpenSpec.ofChange s with cond := some uptoSmall }

/-- 'filigreelaw05.CplxSizes', WHERE WHAT IT READS IS OF BULK AT MOST 1048576: true; the input reads as it did. -/
def cplxSizesUptoRow : OpenClaim := { program := "ytoihdhmgjfoclaa", sum := "98490725210406a8d1c2357c32e71b6f964226333f26f7b83805e7cdd7e3cb35", func := "filigree/filigreelaw05.CplxSizes", spec := "cplxSizes", inPlace := ["math.Float64frombits", "math.Float64bits", "math.sqrt"], unfollowed := true, recurses := true, apart := false, narrowed := true }
def CplxSizesUptoSaid : Prop := cplxSizesUptoRow.holds Try.pinned (OpenSpec.upto cplxSizesSpec)

/-- 'filigreelaw05.CplxScale', WHERE WHAT IT READS IS OF BULK AT MOST 1048576: true; the input reads as it did. -/
def cplxScaleUptoRow : OpenClaim := { program := "ytoihdhmgjfoclaa", sum := "98490725210406a8d1c2357c32e71b6f964226333f26f7b83805e7cdd7e3cb35", func := "filigree/filigreelaw05.CplxScale", spec := "cplxScale", inPlace := ["math.Float64frombits", "math.Float64bits", "math.sqrt"], unfollowed := true, recurses := true, apart := false, narrowed := true }
def CplxScaleUptoSaid : Prop := cplxScaleUptoRow.holds Try.pinned (OpenSpec.upto cplxScaleSpec)

/-- 'filigreelaw05.CplxSigns', WHERE WHAT IT READS IS OF BULK AT MOST 1048576: true; the input reads as it did. -/
def cplxSignsUptoRow : OpenClaim := { program := "ytoihdhmgjfoclaa", sum := "98490725210406a8d1c2357c32e71b6f964226333f26f7b83805e7cdd7e3cb35", func := "filigree/filigreelaw05.CplxSigns", spec := "cplxSigns", inPlace := ["math.Float64frombits", "math.Float64bits", "math.sqrt"], unfollowed := true, recurses := true, apart := false, narrowed := true }
def CplxSignsUptoSaid : Prop := cplxSignsUptoRow.holds Try.pinned (OpenSpec.upto cplxSignsSpec)

/-- 'filigreelaw05.CplxNarrow', WHERE WHAT IT READS IS OF BULK AT MOST 1048576: true; the input reads as it did. -/
def cplxNarrowUptoRow : OpenClaim := { program := "ytoihdhmgjfoclaa", sum := "98490725210406a8d1c2357c32e71b6f964226333f26f7b83805e7cdd7e3cb35", func := "filigree/filigreelaw05.CplxNarrow", spec := "cplxNarrow", inPlace := ["math.Float64frombits", "math.Float32frombits", "math.Float64bits", "math.sqrt"], unfollowed := true, recurses := true, apart := false, narrowed := true }
def CplxNarrowUptoSaid : Prop := cplxNarrowUptoRow.holds Try.pinned (OpenSpec.upto cplxNarrowSpec)

/-- 'filigreelaw05.CplxLists', WHERE WHAT IT READS IS OF BULK AT MOST 1048576: true; the input reads as it did. -/
def cplxListsUptoRow : OpenClaim := { program := "ytoihdhmgjfoclaa", sum := "98490725210406a8d1c2357c32e71b6f964226333f26f7b83805e7cdd7e3cb35", func := "filigree/filigreelaw05.CplxLists", spec := "cplxLists", inPlace := ["math.Float64frombits", "math.Float64bits", "math.sqrt"], unfollowed := true, recurses := true, apart := false, narrowed := true }
def CplxListsUptoSaid : Prop := cplxListsUptoRow.holds Try.pinned (OpenSpec.upto cplxListsSpec)

/-- 'filigreelaw05.CplxGo', WHERE WHAT IT READS IS OF BULK AT MOST 1048576: true; the input reads as it did. -/
def cplxGoUptoRow : OpenClaim := { program := "ytoihdhmgjfoclaa", sum := "98490725210406a8d1c2357c32e71b6f964226333f26f7b83805e7cdd7e3cb35", func := "filigree/filigreelaw05.CplxGo", spec := "cplxGo", inPlace := ["math.Float64frombits", "math.Float64bits", "math.sqrt"], unfollowed := true, recurses := true, apart := false, narrowed := true }
def CplxGoUptoSaid : Prop := cplxGoUptoRow.holds Try.pinned (OpenSpec.upto cplxGoSpec)

/-- 'filigreelaw05.CplxOne', WHERE WHAT IT READS IS OF BULK AT MOST 1048576: true; the input reads as it did. -/
def cplxOneUptoRow : OpenClaim := { program := "ytoihdhmgjfoclaa", sum := "98490725210406a8d1c2357c32e71b6f964226333f26f7b83805e7cdd7e3cb35", func := "filigree/filigreelaw05.CplxOne", spec := "cplxOne", inPlace := ["math.Float64frombits", "math.Float64bits", "math.sqrt"], unfollowed := true, recurses := true, apart := false, narrowed := true }
def CplxOneUptoSaid : Prop := cplxOneUptoRow.holds Try.pinned (OpenSpec.upto cplxOneSpec)

/-- 'filigreelaw05.CplxOrder', WHERE WHAT IT READS IS OF BULK AT MOST 1048576: true; the input reads as it did. -/
def cplxOrderUptoRow : OpenClaim := { program := "ytoihdhmgjfoclaa", sum := "98490725210406a8d1c2357c32e71b6f964226333f26f7b83805e7cdd7e3cb35", func := "filigree/filigreelaw05.CplxOrder", spec := "cplxOrder", inPlace := ["math.Float64frombits", "math.Float64bits", "math.sqrt"], unfollowed := true, recurses := true, apart := false, narrowed := true }
def CplxOrderUptoSaid : Prop := cplxOrderUptoRow.holds Try.pinned (OpenSpec.upto cplxOrderSpec)

/-- 'filigreelaw05.CplxTwo', WHERE WHAT IT READS IS OF BULK AT MOST 1048576: true; the input reads as it did. -/
def cplxTwoUptoRow : OpenClaim := { program := "ytoihdhmgjfoclaa", sum := "98490725210406a8d1c2357c32e71b6f964226333f26f7b83805e7cdd7e3cb35", func := "filigree/filigreelaw05.CplxTwo", spec := "cplxTwo", inPlace := ["math.Float64frombits", "math.Float64bits", "math.sqrt"], unfollowed := true, recurses := true, apart := false, narrowed := true }
def CplxTwoUptoSaid : Prop := cplxTwoUptoRow.holds Try.pinned (OpenSpec.upto cplxTwoSpec)

/-- 'filigreelaw05.CplxBounds', WHERE WHAT IT READS IS OF BULK AT MOST 1048576: true; the input reads as it did. -/
def cplxBoundsUptoRow : OpenClaim := { program := "ytoihdhmgjfoclaa", sum := "98490725210406a8d1c2357c32e71b6f964226333f26f7b83805e7cdd7e3cb35", func := "filigree/filigreelaw05.CplxBounds", spec := "cplxBounds", inPlace := ["math.Float64frombits", "math.Float64bits", "math.sqrt"], unfollowed := true, recurses := true, apart := false, narrowed := true }
def CplxBoundsUptoSaid : Prop := cplxBoundsUptoRow.holds Try.pinned (OpenSpec.upto cplxBoundsSpec)

end Rows
end Go.Proofs.Ytoihdhmgjfoclaa
