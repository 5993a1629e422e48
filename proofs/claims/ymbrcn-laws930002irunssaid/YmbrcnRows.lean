/-
  No cell of these rows narrows 'for every input' (looked for: loops, veiled, ifaces, maps, wideKeys, modest, calm, conditions, laid).
  DERIVED. THE GIVEN ROWS OF THIS SEAT. 11 by the template 'for every input the law returns true; each argument reads behind the call as it read before'; 0 by the template 'total and deterministic' (their statements: YmbrcnTotals.lean).
  GIVEN WITH THE SEED: the statements are not yours to turn. If you find one false, say at which input.
  Laid BY PROGRAM, IN A SANDBOX (cutbox-rows.mjs): the forced cells as the released guide's own fill.sh prints them over the translation 58918fd98a03088c… (all of the seat's roots in one cut). By AI agents, Wed Nov 11 2026. No macro, syntax, notation, axiom, sorry.
-/
import Derived.Test.YmbrcnChecked
import GoSem.Claim
import GoSem.ClaimJoined
import GoSem.ClaimMapViews
import Derived.JoinedTies
import Derived.KernelRfl
namespace Go.Proofs.Ymbrcn
/- THE CELL 'sum', in the pinned program and in every row, IS THE sha256 OF THE DUMP (.gsa) THAT YmbrcnProg.lean LOADS. Nothing in Lean hashes anything: it is a label: what it is worth is what the hold of that sum in a sandbox is worth. -/
noncomputable def Ycnm.pinned : Pinned := { name := "ymbrcn", sum := "58918fd98a03088cc5e32e20c09a60a0d0151e6e87babebfd4c91ca21a827475", checked := Ycnm.checked }
namespace Rows
def none {H : Type} : Left H := { results := [], args := [] }

/-- 'rle.LawS930002IRuns': WHATEVER THE INPUT: true; the input reads as it did. -/
def lawS930002IRunsSpec : ChangeSpec := { name := "lawS930002IRuns", fn := fun _ => fun
  | [d1, d2, d3] => { results := [.lit (.bool true)], args := [d1, d2, d3] }
  | _ => none }
def lawS930002IRunsRow : OpenClaim := { program := "ymbrcn", sum := "58918fd98a03088cc5e32e20c09a60a0d0151e6e87babebfd4c91ca21a827475", func := "example.com/own/rle.LawS930002IRuns", spec := "lawS930002IRuns", apart := false }
def LawS930002IRunsSaid : Prop := lawS930002IRunsRow.holds Ycnm.pinned (OpenSpec.ofChange lawS930002IRunsSpec)

/-- ITS FALSE NEIGHBOUR: 'it returns false'. Refute it at one input. -/
def lawS930002IRunsWrong : ChangeSpec := { name := "lawS930002IRuns", fn := fun _ => fun
  | [d1, d2, d3] => { results := [.lit (.bool false)], args := [d1, d2, d3] }
  | _ => none }
def LawS930002IRunsWrongFalsely : Prop := lawS930002IRunsRow.holds Ycnm.pinned (OpenSpec.ofChange lawS930002IRunsWrong)

/-- 'rle.LawS930002IRoundTrip': WHATEVER THE INPUT: true; the input reads as it did. -/
def lawS930002IRoundTripSpec : ChangeSpec := { name := "lawS930002IRoundTrip", fn := fun _ => fun
  | [d1, d2, d3] => { results := [.lit (.bool true)], args := [d1, d2, d3] }
  | _ => none }
def lawS930002IRoundTripRow : OpenClaim := { program := "ymbrcn", sum := "58918fd98a03088cc5e32e20c09a60a0d0151e6e87babebfd4c91ca21a827475", func := "example.com/own/rle.LawS930002IRoundTrip", spec := "lawS930002IRoundTrip", apart := false }
def LawS930002IRoundTripSaid : Prop := lawS930002IRoundTripRow.holds Ycnm.pinned (OpenSpec.ofChange lawS930002IRoundTripSpec)

/-- ITS FALSE NEIGHBOUR: 'it returns false'. Refute it at one input. -/
def lawS930002IRoundTripWrong : ChangeSpec := { name := "lawS930002IRoundTrip", fn := fun _ => fun
  | [d1, d2, d3] => { results := [.lit (.bool false)], args := [d1, d2, d3] }
  | _ => none }
def LawS930002IRoundTripWrongFalsely : Prop := lawS930002IRoundTripRow.holds Ycnm.pinned (OpenSpec.ofChange lawS930002IRoundTripWrong)

/-- 'rle.LawS930002JRaw': WHATEVER THE INPUT: true; the input reads as it did. -/
def lawS930002JRawSpec : ChangeSpec := { name := "lawS930002JRaw", fn := fun _ => fun
  | [d1, d2] => { results := [.lit (.bool true)], args := [d1, d2] }
  | _ => none }
def lawS930002JRawRow : OpenClaim := { program := "ymbrcn", sum := "58918fd98a03088cc5e32e20c09a60a0d0151e6e87babebfd4c91ca21a827475", func := "example.com/own/rle.LawS930002JRaw", spec := "lawS930002JRaw", apart := false }
def LawS930002JRawSaid : Prop := lawS930002JRawRow.holds Ycnm.pinned (OpenSpec.ofChange lawS930002JRawSpec)

/-- ITS FALSE NEIGHBOUR: 'it returns false'. Refute it at one input. -/
def lawS930002JRawWrong : ChangeSpec := { name := "lawS930002JRaw", fn := fun _ => fun
  | [d1, d2] => { results := [.lit (.bool false)], args := [d1, d2] }
  | _ => none }
def LawS930002JRawWrongFalsely : Prop := lawS930002JRawRow.holds Ycnm.pinned (OpenSpec.ofChange lawS930002JRawWrong)

/-- 'rle.LawS930002JExact': WHATEVER THE INPUT: true; the input reads as it did. -/
def lawS930002JExactSpec : ChangeSpec := { name := "lawS930002JExact", fn := fun _ => fun
  | [d1, d2] => { results := [.lit (.bool true)], args := [d1, d2] }
  | _ => none }
def lawS930002JExactRow : OpenClaim := { program := "ymbrcn", sum := "58918fd98a03088cc5e32e20c09a60a0d0151e6e87babebfd4c91ca21a827475", func := "example.com/own/rle.LawS930002JExact", spec := "lawS930002JExact", apart := false }
def LawS930002JExactSaid : Prop := lawS930002JExactRow.holds Ycnm.pinned (OpenSpec.ofChange lawS930002JExactSpec)

/-- ITS FALSE NEIGHBOUR: 'it returns false'. Refute it at one input. -/
def lawS930002JExactWrong : ChangeSpec := { name := "lawS930002JExact", fn := fun _ => fun
  | [d1, d2] => { results := [.lit (.bool false)], args := [d1, d2] }
  | _ => none }
def LawS930002JExactWrongFalsely : Prop := lawS930002JExactRow.holds Ycnm.pinned (OpenSpec.ofChange lawS930002JExactWrong)

/-- 'rle.LawS930002JAssoc': WHATEVER THE INPUT: true; the input reads as it did. -/
def lawS930002JAssocSpec : ChangeSpec := { name := "lawS930002JAssoc", fn := fun _ => fun
  | [d1, d2, d3] => { results := [.lit (.bool true)], args := [d1, d2, d3] }
  | _ => none }
def lawS930002JAssocRow : OpenClaim := { program := "ymbrcn", sum := "58918fd98a03088cc5e32e20c09a60a0d0151e6e87babebfd4c91ca21a827475", func := "example.com/own/rle.LawS930002JAssoc", spec := "lawS930002JAssoc", apart := false }
def LawS930002JAssocSaid : Prop := lawS930002JAssocRow.holds Ycnm.pinned (OpenSpec.ofChange lawS930002JAssocSpec)

/-- ITS FALSE NEIGHBOUR: 'it returns false'. Refute it at one input. -/
def lawS930002JAssocWrong : ChangeSpec := { name := "lawS930002JAssoc", fn := fun _ => fun
  | [d1, d2, d3] => { results := [.lit (.bool false)], args := [d1, d2, d3] }
  | _ => none }
def LawS930002JAssocWrongFalsely : Prop := lawS930002JAssocRow.holds Ycnm.pinned (OpenSpec.ofChange lawS930002JAssocWrong)

/-- 'rle.LawS930002KExact': WHATEVER THE INPUT: true; the input reads as it did. -/
def lawS930002KExactSpec : ChangeSpec := { name := "lawS930002KExact", fn := fun _ => fun
  | [d] => { results := [.lit (.bool true)], args := [d] }
  | _ => none }
def lawS930002KExactRow : OpenClaim := { program := "ymbrcn", sum := "58918fd98a03088cc5e32e20c09a60a0d0151e6e87babebfd4c91ca21a827475", func := "example.com/own/rle.LawS930002KExact", spec := "lawS930002KExact", apart := false }
def LawS930002KExactSaid : Prop := lawS930002KExactRow.holds Ycnm.pinned (OpenSpec.ofChange lawS930002KExactSpec)

/-- ITS FALSE NEIGHBOUR: 'it returns false'. Refute it at one input. -/
def lawS930002KExactWrong : ChangeSpec := { name := "lawS930002KExact", fn := fun _ => fun
  | [d] => { results := [.lit (.bool false)], args := [d] }
  | _ => none }
def LawS930002KExactWrongFalsely : Prop := lawS930002KExactRow.holds Ycnm.pinned (OpenSpec.ofChange lawS930002KExactWrong)

/-- 'rle.LawS930002KPairs': WHATEVER THE INPUT: true; the input reads as it did. -/
def lawS930002KPairsSpec : ChangeSpec := { name := "lawS930002KPairs", fn := fun _ => fun
  | [d1, d2] => { results := [.lit (.bool true)], args := [d1, d2] }
  | _ => none }
def lawS930002KPairsRow : OpenClaim := { program := "ymbrcn", sum := "58918fd98a03088cc5e32e20c09a60a0d0151e6e87babebfd4c91ca21a827475", func := "example.com/own/rle.LawS930002KPairs", spec := "lawS930002KPairs", apart := false }
def LawS930002KPairsSaid : Prop := lawS930002KPairsRow.holds Ycnm.pinned (OpenSpec.ofChange lawS930002KPairsSpec)

/-- ITS FALSE NEIGHBOUR: 'it returns false'. Refute it at one input. -/
def lawS930002KPairsWrong : ChangeSpec := { name := "lawS930002KPairs", fn := fun _ => fun
  | [d1, d2] => { results := [.lit (.bool false)], args := [d1, d2] }
  | _ => none }
def LawS930002KPairsWrongFalsely : Prop := lawS930002KPairsRow.holds Ycnm.pinned (OpenSpec.ofChange lawS930002KPairsWrong)

/-- 'rle.LawS930002KSplit': WHATEVER THE INPUT: true; the input reads as it did. -/
def lawS930002KSplitSpec : ChangeSpec := { name := "lawS930002KSplit", fn := fun _ => fun
  | [d1, d2] => { results := [.lit (.bool true)], args := [d1, d2] }
  | _ => none }
def lawS930002KSplitRow : OpenClaim := { program := "ymbrcn", sum := "58918fd98a03088cc5e32e20c09a60a0d0151e6e87babebfd4c91ca21a827475", func := "example.com/own/rle.LawS930002KSplit", spec := "lawS930002KSplit", apart := false }
def LawS930002KSplitSaid : Prop := lawS930002KSplitRow.holds Ycnm.pinned (OpenSpec.ofChange lawS930002KSplitSpec)

/-- ITS FALSE NEIGHBOUR: 'it returns false'. Refute it at one input. -/
def lawS930002KSplitWrong : ChangeSpec := { name := "lawS930002KSplit", fn := fun _ => fun
  | [d1, d2] => { results := [.lit (.bool false)], args := [d1, d2] }
  | _ => none }
def LawS930002KSplitWrongFalsely : Prop := lawS930002KSplitRow.holds Ycnm.pinned (OpenSpec.ofChange lawS930002KSplitWrong)

/-- 'rle.LawS930002LExact': WHATEVER THE INPUT: true; the input reads as it did. -/
def lawS930002LExactSpec : ChangeSpec := { name := "lawS930002LExact", fn := fun _ => fun
  | [d1, d2] => { results := [.lit (.bool true)], args := [d1, d2] }
  | _ => none }
def lawS930002LExactRow : OpenClaim := { program := "ymbrcn", sum := "58918fd98a03088cc5e32e20c09a60a0d0151e6e87babebfd4c91ca21a827475", func := "example.com/own/rle.LawS930002LExact", spec := "lawS930002LExact", apart := false }
def LawS930002LExactSaid : Prop := lawS930002LExactRow.holds Ycnm.pinned (OpenSpec.ofChange lawS930002LExactSpec)

/-- ITS FALSE NEIGHBOUR: 'it returns false'. Refute it at one input. -/
def lawS930002LExactWrong : ChangeSpec := { name := "lawS930002LExact", fn := fun _ => fun
  | [d1, d2] => { results := [.lit (.bool false)], args := [d1, d2] }
  | _ => none }
def LawS930002LExactWrongFalsely : Prop := lawS930002LExactRow.holds Ycnm.pinned (OpenSpec.ofChange lawS930002LExactWrong)

/-- 'rle.LawS930002LBoundary': WHATEVER THE INPUT: true; the input reads as it did. -/
def lawS930002LBoundarySpec : ChangeSpec := { name := "lawS930002LBoundary", fn := fun _ => fun
  | [d1, d2, d3] => { results := [.lit (.bool true)], args := [d1, d2, d3] }
  | _ => none }
def lawS930002LBoundaryRow : OpenClaim := { program := "ymbrcn", sum := "58918fd98a03088cc5e32e20c09a60a0d0151e6e87babebfd4c91ca21a827475", func := "example.com/own/rle.LawS930002LBoundary", spec := "lawS930002LBoundary", apart := false }
def LawS930002LBoundarySaid : Prop := lawS930002LBoundaryRow.holds Ycnm.pinned (OpenSpec.ofChange lawS930002LBoundarySpec)

/-- ITS FALSE NEIGHBOUR: 'it returns false'. Refute it at one input. -/
def lawS930002LBoundaryWrong : ChangeSpec := { name := "lawS930002LBoundary", fn := fun _ => fun
  | [d1, d2, d3] => { results := [.lit (.bool false)], args := [d1, d2, d3] }
  | _ => none }
def LawS930002LBoundaryWrongFalsely : Prop := lawS930002LBoundaryRow.holds Ycnm.pinned (OpenSpec.ofChange lawS930002LBoundaryWrong)

/-- 'rle.LawS930002LSplit': WHATEVER THE INPUT: true; the input reads as it did. -/
def lawS930002LSplitSpec : ChangeSpec := { name := "lawS930002LSplit", fn := fun _ => fun
  | [d1, d2, d3, d4] => { results := [.lit (.bool true)], args := [d1, d2, d3, d4] }
  | _ => none }
def lawS930002LSplitRow : OpenClaim := { program := "ymbrcn", sum := "58918fd98a03088cc5e32e20c09a60a0d0151e6e87babebfd4c91ca21a827475", func := "example.com/own/rle.LawS930002LSplit", spec := "lawS930002LSplit", apart := false }
def LawS930002LSplitSaid : Prop := lawS930002LSplitRow.holds Ycnm.pinned (OpenSpec.ofChange lawS930002LSplitSpec)

/-- ITS FALSE NEIGHBOUR: 'it returns false'. Refute it at one input. -/
def lawS930002LSplitWrong : ChangeSpec := { name := "lawS930002LSplit", fn := fun _ => fun
  | [d1, d2, d3, d4] => { results := [.lit (.bool false)], args := [d1, d2, d3, d4] }
  | _ => none }
def LawS930002LSplitWrongFalsely : Prop := lawS930002LSplitRow.holds Ycnm.pinned (OpenSpec.ofChange lawS930002LSplitWrong)

end Rows
end Go.Proofs.Ymbrcn
