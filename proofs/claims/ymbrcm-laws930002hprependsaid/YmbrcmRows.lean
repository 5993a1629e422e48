/-
  No cell of these rows narrows 'for every input' (looked for: loops, veiled, ifaces, maps, wideKeys, modest, calm, conditions, laid).
  DERIVED. THE GIVEN ROWS OF THIS SEAT. 12 by the template 'for every input the law returns true; each argument reads behind the call as it read before'; 0 by the template 'total and deterministic' (their statements: YmbrcmTotals.lean).
  GIVEN WITH THE SEED: the statements are not yours to turn. If you find one false, say at which input.
  Laid BY PROGRAM, IN A SANDBOX (cutbox-rows.mjs): the forced cells as the released guide's own fill.sh prints them over the translation 06d91368df16d958… (all of the seat's roots in one cut). By AI agents, Wed Nov 11 2026. No macro, syntax, notation, axiom, sorry.
-/
import Derived.Test.YmbrcmChecked
import GoSem.Claim
import GoSem.ClaimJoined
import GoSem.ClaimMapViews
import Derived.JoinedTies
import Derived.KernelRfl
namespace Go.Proofs.Ymbrcm
/- THE CELL 'sum', in the pinned program and in every row, IS THE sha256 OF THE DUMP (.gsa) THAT YmbrcmProg.lean LOADS. Nothing in Lean hashes anything: it is a label: what it is worth is what the hold of that sum in a sandbox is worth. -/
noncomputable def Ycmm.pinned : Pinned := { name := "ymbrcm", sum := "06d91368df16d958b8b4db14d7442cc7d6823c5c55eae4d73cfdf3eeed02e150", checked := Ycmm.checked }
namespace Rows
def none {H : Type} : Left H := { results := [], args := [] }

/-- 'rle.LawS930002ERaw': WHATEVER THE INPUT: true; the input reads as it did. -/
def lawS930002ERawSpec : ChangeSpec := { name := "lawS930002ERaw", fn := fun _ => fun
  | [d] => { results := [.lit (.bool true)], args := [d] }
  | _ => none }
def lawS930002ERawRow : OpenClaim := { program := "ymbrcm", sum := "06d91368df16d958b8b4db14d7442cc7d6823c5c55eae4d73cfdf3eeed02e150", func := "example.com/own/rle.LawS930002ERaw", spec := "lawS930002ERaw", apart := false }
def LawS930002ERawSaid : Prop := lawS930002ERawRow.holds Ycmm.pinned (OpenSpec.ofChange lawS930002ERawSpec)

/-- ITS FALSE NEIGHBOUR: 'it returns false'. Refute it at one input. -/
def lawS930002ERawWrong : ChangeSpec := { name := "lawS930002ERaw", fn := fun _ => fun
  | [d] => { results := [.lit (.bool false)], args := [d] }
  | _ => none }
def LawS930002ERawWrongFalsely : Prop := lawS930002ERawRow.holds Ycmm.pinned (OpenSpec.ofChange lawS930002ERawWrong)

/-- 'rle.LawS930002EGroups': WHATEVER THE INPUT: true; the input reads as it did. -/
def lawS930002EGroupsSpec : ChangeSpec := { name := "lawS930002EGroups", fn := fun _ => fun
  | [d] => { results := [.lit (.bool true)], args := [d] }
  | _ => none }
def lawS930002EGroupsRow : OpenClaim := { program := "ymbrcm", sum := "06d91368df16d958b8b4db14d7442cc7d6823c5c55eae4d73cfdf3eeed02e150", func := "example.com/own/rle.LawS930002EGroups", spec := "lawS930002EGroups", apart := false }
def LawS930002EGroupsSaid : Prop := lawS930002EGroupsRow.holds Ycmm.pinned (OpenSpec.ofChange lawS930002EGroupsSpec)

/-- ITS FALSE NEIGHBOUR: 'it returns false'. Refute it at one input. -/
def lawS930002EGroupsWrong : ChangeSpec := { name := "lawS930002EGroups", fn := fun _ => fun
  | [d] => { results := [.lit (.bool false)], args := [d] }
  | _ => none }
def LawS930002EGroupsWrongFalsely : Prop := lawS930002EGroupsRow.holds Ycmm.pinned (OpenSpec.ofChange lawS930002EGroupsWrong)

/-- 'rle.LawS930002EKept': WHATEVER THE INPUT: true; the input reads as it did. -/
def lawS930002EKeptSpec : ChangeSpec := { name := "lawS930002EKept", fn := fun _ => fun
  | [d] => { results := [.lit (.bool true)], args := [d] }
  | _ => none }
def lawS930002EKeptRow : OpenClaim := { program := "ymbrcm", sum := "06d91368df16d958b8b4db14d7442cc7d6823c5c55eae4d73cfdf3eeed02e150", func := "example.com/own/rle.LawS930002EKept", spec := "lawS930002EKept", apart := false }
def LawS930002EKeptSaid : Prop := lawS930002EKeptRow.holds Ycmm.pinned (OpenSpec.ofChange lawS930002EKeptSpec)

/-- ITS FALSE NEIGHBOUR: 'it returns false'. Refute it at one input. -/
def lawS930002EKeptWrong : ChangeSpec := { name := "lawS930002EKept", fn := fun _ => fun
  | [d] => { results := [.lit (.bool false)], args := [d] }
  | _ => none }
def LawS930002EKeptWrongFalsely : Prop := lawS930002EKeptRow.holds Ycmm.pinned (OpenSpec.ofChange lawS930002EKeptWrong)

/-- 'rle.LawS930002FExact': WHATEVER THE INPUT: true; the input reads as it did. -/
def lawS930002FExactSpec : ChangeSpec := { name := "lawS930002FExact", fn := fun _ => fun
  | [d] => { results := [.lit (.bool true)], args := [d] }
  | _ => none }
def lawS930002FExactRow : OpenClaim := { program := "ymbrcm", sum := "06d91368df16d958b8b4db14d7442cc7d6823c5c55eae4d73cfdf3eeed02e150", func := "example.com/own/rle.LawS930002FExact", spec := "lawS930002FExact", apart := false }
def LawS930002FExactSaid : Prop := lawS930002FExactRow.holds Ycmm.pinned (OpenSpec.ofChange lawS930002FExactSpec)

/-- ITS FALSE NEIGHBOUR: 'it returns false'. Refute it at one input. -/
def lawS930002FExactWrong : ChangeSpec := { name := "lawS930002FExact", fn := fun _ => fun
  | [d] => { results := [.lit (.bool false)], args := [d] }
  | _ => none }
def LawS930002FExactWrongFalsely : Prop := lawS930002FExactRow.holds Ycmm.pinned (OpenSpec.ofChange lawS930002FExactWrong)

/-- 'rle.LawS930002FRuns': WHATEVER THE INPUT: true; the input reads as it did. -/
def lawS930002FRunsSpec : ChangeSpec := { name := "lawS930002FRuns", fn := fun _ => fun
  | [d1, d2, d3, d4, d5, d6] => { results := [.lit (.bool true)], args := [d1, d2, d3, d4, d5, d6] }
  | _ => none }
def lawS930002FRunsRow : OpenClaim := { program := "ymbrcm", sum := "06d91368df16d958b8b4db14d7442cc7d6823c5c55eae4d73cfdf3eeed02e150", func := "example.com/own/rle.LawS930002FRuns", spec := "lawS930002FRuns", apart := false }
def LawS930002FRunsSaid : Prop := lawS930002FRunsRow.holds Ycmm.pinned (OpenSpec.ofChange lawS930002FRunsSpec)

/-- ITS FALSE NEIGHBOUR: 'it returns false'. Refute it at one input. -/
def lawS930002FRunsWrong : ChangeSpec := { name := "lawS930002FRuns", fn := fun _ => fun
  | [d1, d2, d3, d4, d5, d6] => { results := [.lit (.bool false)], args := [d1, d2, d3, d4, d5, d6] }
  | _ => none }
def LawS930002FRunsWrongFalsely : Prop := lawS930002FRunsRow.holds Ycmm.pinned (OpenSpec.ofChange lawS930002FRunsWrong)

/-- 'rle.LawS930002GRaw': WHATEVER THE INPUT: true; the input reads as it did. -/
def lawS930002GRawSpec : ChangeSpec := { name := "lawS930002GRaw", fn := fun _ => fun
  | [d1, d2] => { results := [.lit (.bool true)], args := [d1, d2] }
  | _ => none }
def lawS930002GRawRow : OpenClaim := { program := "ymbrcm", sum := "06d91368df16d958b8b4db14d7442cc7d6823c5c55eae4d73cfdf3eeed02e150", func := "example.com/own/rle.LawS930002GRaw", spec := "lawS930002GRaw", apart := false }
def LawS930002GRawSaid : Prop := lawS930002GRawRow.holds Ycmm.pinned (OpenSpec.ofChange lawS930002GRawSpec)

/-- ITS FALSE NEIGHBOUR: 'it returns false'. Refute it at one input. -/
def lawS930002GRawWrong : ChangeSpec := { name := "lawS930002GRaw", fn := fun _ => fun
  | [d1, d2] => { results := [.lit (.bool false)], args := [d1, d2] }
  | _ => none }
def LawS930002GRawWrongFalsely : Prop := lawS930002GRawRow.holds Ycmm.pinned (OpenSpec.ofChange lawS930002GRawWrong)

/-- 'rle.LawS930002GOrder': WHATEVER THE INPUT: true; the input reads as it did. -/
def lawS930002GOrderSpec : ChangeSpec := { name := "lawS930002GOrder", fn := fun _ => fun
  | [d1, d2] => { results := [.lit (.bool true)], args := [d1, d2] }
  | _ => none }
def lawS930002GOrderRow : OpenClaim := { program := "ymbrcm", sum := "06d91368df16d958b8b4db14d7442cc7d6823c5c55eae4d73cfdf3eeed02e150", func := "example.com/own/rle.LawS930002GOrder", spec := "lawS930002GOrder", apart := false }
def LawS930002GOrderSaid : Prop := lawS930002GOrderRow.holds Ycmm.pinned (OpenSpec.ofChange lawS930002GOrderSpec)

/-- ITS FALSE NEIGHBOUR: 'it returns false'. Refute it at one input. -/
def lawS930002GOrderWrong : ChangeSpec := { name := "lawS930002GOrder", fn := fun _ => fun
  | [d1, d2] => { results := [.lit (.bool false)], args := [d1, d2] }
  | _ => none }
def LawS930002GOrderWrongFalsely : Prop := lawS930002GOrderRow.holds Ycmm.pinned (OpenSpec.ofChange lawS930002GOrderWrong)

/-- 'rle.LawS930002GStem': WHATEVER THE INPUT: true; the input reads as it did. -/
def lawS930002GStemSpec : ChangeSpec := { name := "lawS930002GStem", fn := fun _ => fun
  | [d1, d2, d3] => { results := [.lit (.bool true)], args := [d1, d2, d3] }
  | _ => none }
def lawS930002GStemRow : OpenClaim := { program := "ymbrcm", sum := "06d91368df16d958b8b4db14d7442cc7d6823c5c55eae4d73cfdf3eeed02e150", func := "example.com/own/rle.LawS930002GStem", spec := "lawS930002GStem", apart := false }
def LawS930002GStemSaid : Prop := lawS930002GStemRow.holds Ycmm.pinned (OpenSpec.ofChange lawS930002GStemSpec)

/-- ITS FALSE NEIGHBOUR: 'it returns false'. Refute it at one input. -/
def lawS930002GStemWrong : ChangeSpec := { name := "lawS930002GStem", fn := fun _ => fun
  | [d1, d2, d3] => { results := [.lit (.bool false)], args := [d1, d2, d3] }
  | _ => none }
def LawS930002GStemWrongFalsely : Prop := lawS930002GStemRow.holds Ycmm.pinned (OpenSpec.ofChange lawS930002GStemWrong)

/-- 'rle.LawS930002HExact': WHATEVER THE INPUT: true; the input reads as it did. -/
def lawS930002HExactSpec : ChangeSpec := { name := "lawS930002HExact", fn := fun _ => fun
  | [d1, d2] => { results := [.lit (.bool true)], args := [d1, d2] }
  | _ => none }
def lawS930002HExactRow : OpenClaim := { program := "ymbrcm", sum := "06d91368df16d958b8b4db14d7442cc7d6823c5c55eae4d73cfdf3eeed02e150", func := "example.com/own/rle.LawS930002HExact", spec := "lawS930002HExact", apart := false }
def LawS930002HExactSaid : Prop := lawS930002HExactRow.holds Ycmm.pinned (OpenSpec.ofChange lawS930002HExactSpec)

/-- ITS FALSE NEIGHBOUR: 'it returns false'. Refute it at one input. -/
def lawS930002HExactWrong : ChangeSpec := { name := "lawS930002HExact", fn := fun _ => fun
  | [d1, d2] => { results := [.lit (.bool false)], args := [d1, d2] }
  | _ => none }
def LawS930002HExactWrongFalsely : Prop := lawS930002HExactRow.holds Ycmm.pinned (OpenSpec.ofChange lawS930002HExactWrong)

/-- 'rle.LawS930002HExpanded': WHATEVER THE INPUT: true; the input reads as it did. -/
def lawS930002HExpandedSpec : ChangeSpec := { name := "lawS930002HExpanded", fn := fun _ => fun
  | [d1, d2] => { results := [.lit (.bool true)], args := [d1, d2] }
  | _ => none }
def lawS930002HExpandedRow : OpenClaim := { program := "ymbrcm", sum := "06d91368df16d958b8b4db14d7442cc7d6823c5c55eae4d73cfdf3eeed02e150", func := "example.com/own/rle.LawS930002HExpanded", spec := "lawS930002HExpanded", apart := false }
def LawS930002HExpandedSaid : Prop := lawS930002HExpandedRow.holds Ycmm.pinned (OpenSpec.ofChange lawS930002HExpandedSpec)

/-- ITS FALSE NEIGHBOUR: 'it returns false'. Refute it at one input. -/
def lawS930002HExpandedWrong : ChangeSpec := { name := "lawS930002HExpanded", fn := fun _ => fun
  | [d1, d2] => { results := [.lit (.bool false)], args := [d1, d2] }
  | _ => none }
def LawS930002HExpandedWrongFalsely : Prop := lawS930002HExpandedRow.holds Ycmm.pinned (OpenSpec.ofChange lawS930002HExpandedWrong)

/-- 'rle.LawS930002HPrepend': WHATEVER THE INPUT: true; the input reads as it did. -/
def lawS930002HPrependSpec : ChangeSpec := { name := "lawS930002HPrepend", fn := fun _ => fun
  | [d1, d2, d3, d4] => { results := [.lit (.bool true)], args := [d1, d2, d3, d4] }
  | _ => none }
def lawS930002HPrependRow : OpenClaim := { program := "ymbrcm", sum := "06d91368df16d958b8b4db14d7442cc7d6823c5c55eae4d73cfdf3eeed02e150", func := "example.com/own/rle.LawS930002HPrepend", spec := "lawS930002HPrepend", apart := false }
def LawS930002HPrependSaid : Prop := lawS930002HPrependRow.holds Ycmm.pinned (OpenSpec.ofChange lawS930002HPrependSpec)

/-- ITS FALSE NEIGHBOUR: 'it returns false'. Refute it at one input. -/
def lawS930002HPrependWrong : ChangeSpec := { name := "lawS930002HPrepend", fn := fun _ => fun
  | [d1, d2, d3, d4] => { results := [.lit (.bool false)], args := [d1, d2, d3, d4] }
  | _ => none }
def LawS930002HPrependWrongFalsely : Prop := lawS930002HPrependRow.holds Ycmm.pinned (OpenSpec.ofChange lawS930002HPrependWrong)

/-- 'rle.LawS930002IExact': WHATEVER THE INPUT: true; the input reads as it did. -/
def lawS930002IExactSpec : ChangeSpec := { name := "lawS930002IExact", fn := fun _ => fun
  | [d1, d2] => { results := [.lit (.bool true)], args := [d1, d2] }
  | _ => none }
def lawS930002IExactRow : OpenClaim := { program := "ymbrcm", sum := "06d91368df16d958b8b4db14d7442cc7d6823c5c55eae4d73cfdf3eeed02e150", func := "example.com/own/rle.LawS930002IExact", spec := "lawS930002IExact", apart := false }
def LawS930002IExactSaid : Prop := lawS930002IExactRow.holds Ycmm.pinned (OpenSpec.ofChange lawS930002IExactSpec)

/-- ITS FALSE NEIGHBOUR: 'it returns false'. Refute it at one input. -/
def lawS930002IExactWrong : ChangeSpec := { name := "lawS930002IExact", fn := fun _ => fun
  | [d1, d2] => { results := [.lit (.bool false)], args := [d1, d2] }
  | _ => none }
def LawS930002IExactWrongFalsely : Prop := lawS930002IExactRow.holds Ycmm.pinned (OpenSpec.ofChange lawS930002IExactWrong)

end Rows
end Go.Proofs.Ymbrcm
