/-
  No cell of these rows narrows 'for every input' (looked for: loops, veiled, ifaces, maps, wideKeys, modest, calm, conditions, laid).
  DERIVED. THE GIVEN ROWS OF THIS SEAT. 12 by the template 'for every input the law returns true; each argument reads behind the call as it read before'; 0 by the template 'total and deterministic' (their statements: YmbrclTotals.lean).
  GIVEN WITH THE SEED: the statements are not yours to turn. If you find one false, say at which input.
  Laid BY PROGRAM, IN A SANDBOX (cutbox-rows.mjs): the forced cells as the released guide's own fill.sh prints them over the translation 8c923160bec71658… (all of the seat's roots in one cut). By AI agents, Wed Nov 11 2026. No macro, syntax, notation, axiom, sorry.
-/
import Derived.Test.YmbrclChecked
import GoSem.Claim
import GoSem.ClaimJoined
import GoSem.ClaimMapViews
import Derived.JoinedTies
import Derived.KernelRfl
namespace Go.Proofs.Ymbrcl
/- THE CELL 'sum', in the pinned program and in every row, IS THE sha256 OF THE DUMP (.gsa) THAT YmbrclProg.lean LOADS. Nothing in Lean hashes anything: it is a label: what it is worth is what the hold of that sum in a sandbox is worth. -/
noncomputable def Yclm.pinned : Pinned := { name := "ymbrcl", sum := "8c923160bec71658fe3b993135aded60727c2eec9ff75fd4ebe730e5a1046034", checked := Yclm.checked }
namespace Rows
def none {H : Type} : Left H := { results := [], args := [] }

/-- 'rle.LawS930002AExact': WHATEVER THE INPUT: true; the input reads as it did. -/
def lawS930002AExactSpec : ChangeSpec := { name := "lawS930002AExact", fn := fun _ => fun
  | [d1, d2, d3, d4, d5] => { results := [.lit (.bool true)], args := [d1, d2, d3, d4, d5] }
  | _ => none }
def lawS930002AExactRow : OpenClaim := { program := "ymbrcl", sum := "8c923160bec71658fe3b993135aded60727c2eec9ff75fd4ebe730e5a1046034", func := "example.com/own/rle.LawS930002AExact", spec := "lawS930002AExact", apart := false }
def LawS930002AExactSaid : Prop := lawS930002AExactRow.holds Yclm.pinned (OpenSpec.ofChange lawS930002AExactSpec)

/-- ITS FALSE NEIGHBOUR: 'it returns false'. Refute it at one input. -/
def lawS930002AExactWrong : ChangeSpec := { name := "lawS930002AExact", fn := fun _ => fun
  | [d1, d2, d3, d4, d5] => { results := [.lit (.bool false)], args := [d1, d2, d3, d4, d5] }
  | _ => none }
def LawS930002AExactWrongFalsely : Prop := lawS930002AExactRow.holds Yclm.pinned (OpenSpec.ofChange lawS930002AExactWrong)

/-- 'rle.LawS930002ACode': WHATEVER THE INPUT: true; the input reads as it did. -/
def lawS930002ACodeSpec : ChangeSpec := { name := "lawS930002ACode", fn := fun _ => fun
  | [d1, d2, d3, d4, d5, d6] => { results := [.lit (.bool true)], args := [d1, d2, d3, d4, d5, d6] }
  | _ => none }
def lawS930002ACodeRow : OpenClaim := { program := "ymbrcl", sum := "8c923160bec71658fe3b993135aded60727c2eec9ff75fd4ebe730e5a1046034", func := "example.com/own/rle.LawS930002ACode", spec := "lawS930002ACode", apart := false }
def LawS930002ACodeSaid : Prop := lawS930002ACodeRow.holds Yclm.pinned (OpenSpec.ofChange lawS930002ACodeSpec)

/-- ITS FALSE NEIGHBOUR: 'it returns false'. Refute it at one input. -/
def lawS930002ACodeWrong : ChangeSpec := { name := "lawS930002ACode", fn := fun _ => fun
  | [d1, d2, d3, d4, d5, d6] => { results := [.lit (.bool false)], args := [d1, d2, d3, d4, d5, d6] }
  | _ => none }
def LawS930002ACodeWrongFalsely : Prop := lawS930002ACodeRow.holds Yclm.pinned (OpenSpec.ofChange lawS930002ACodeWrong)

/-- 'rle.LawS930002ACompose': WHATEVER THE INPUT: true; the input reads as it did. -/
def lawS930002AComposeSpec : ChangeSpec := { name := "lawS930002ACompose", fn := fun _ => fun
  | [d1, d2, d3, d4, d5, d6] => { results := [.lit (.bool true)], args := [d1, d2, d3, d4, d5, d6] }
  | _ => none }
def lawS930002AComposeRow : OpenClaim := { program := "ymbrcl", sum := "8c923160bec71658fe3b993135aded60727c2eec9ff75fd4ebe730e5a1046034", func := "example.com/own/rle.LawS930002ACompose", spec := "lawS930002ACompose", apart := false }
def LawS930002AComposeSaid : Prop := lawS930002AComposeRow.holds Yclm.pinned (OpenSpec.ofChange lawS930002AComposeSpec)

/-- ITS FALSE NEIGHBOUR: 'it returns false'. Refute it at one input. -/
def lawS930002AComposeWrong : ChangeSpec := { name := "lawS930002ACompose", fn := fun _ => fun
  | [d1, d2, d3, d4, d5, d6] => { results := [.lit (.bool false)], args := [d1, d2, d3, d4, d5, d6] }
  | _ => none }
def LawS930002AComposeWrongFalsely : Prop := lawS930002AComposeRow.holds Yclm.pinned (OpenSpec.ofChange lawS930002AComposeWrong)

/-- 'rle.LawS930002BModel': WHATEVER THE INPUT: true; the input reads as it did. -/
def lawS930002BModelSpec : ChangeSpec := { name := "lawS930002BModel", fn := fun _ => fun
  | [d] => { results := [.lit (.bool true)], args := [d] }
  | _ => none }
def lawS930002BModelRow : OpenClaim := { program := "ymbrcl", sum := "8c923160bec71658fe3b993135aded60727c2eec9ff75fd4ebe730e5a1046034", func := "example.com/own/rle.LawS930002BModel", spec := "lawS930002BModel", apart := false }
def LawS930002BModelSaid : Prop := lawS930002BModelRow.holds Yclm.pinned (OpenSpec.ofChange lawS930002BModelSpec)

/-- ITS FALSE NEIGHBOUR: 'it returns false'. Refute it at one input. -/
def lawS930002BModelWrong : ChangeSpec := { name := "lawS930002BModel", fn := fun _ => fun
  | [d] => { results := [.lit (.bool false)], args := [d] }
  | _ => none }
def LawS930002BModelWrongFalsely : Prop := lawS930002BModelRow.holds Yclm.pinned (OpenSpec.ofChange lawS930002BModelWrong)

/-- 'rle.LawS930002BRuns': WHATEVER THE INPUT: true; the input reads as it did. -/
def lawS930002BRunsSpec : ChangeSpec := { name := "lawS930002BRuns", fn := fun _ => fun
  | [d] => { results := [.lit (.bool true)], args := [d] }
  | _ => none }
def lawS930002BRunsRow : OpenClaim := { program := "ymbrcl", sum := "8c923160bec71658fe3b993135aded60727c2eec9ff75fd4ebe730e5a1046034", func := "example.com/own/rle.LawS930002BRuns", spec := "lawS930002BRuns", apart := false }
def LawS930002BRunsSaid : Prop := lawS930002BRunsRow.holds Yclm.pinned (OpenSpec.ofChange lawS930002BRunsSpec)

/-- ITS FALSE NEIGHBOUR: 'it returns false'. Refute it at one input. -/
def lawS930002BRunsWrong : ChangeSpec := { name := "lawS930002BRuns", fn := fun _ => fun
  | [d] => { results := [.lit (.bool false)], args := [d] }
  | _ => none }
def LawS930002BRunsWrongFalsely : Prop := lawS930002BRunsRow.holds Yclm.pinned (OpenSpec.ofChange lawS930002BRunsWrong)

/-- 'rle.LawS930002BRoundTrip': WHATEVER THE INPUT: true; the input reads as it did. -/
def lawS930002BRoundTripSpec : ChangeSpec := { name := "lawS930002BRoundTrip", fn := fun _ => fun
  | [d1, d2] => { results := [.lit (.bool true)], args := [d1, d2] }
  | _ => none }
def lawS930002BRoundTripRow : OpenClaim := { program := "ymbrcl", sum := "8c923160bec71658fe3b993135aded60727c2eec9ff75fd4ebe730e5a1046034", func := "example.com/own/rle.LawS930002BRoundTrip", spec := "lawS930002BRoundTrip", apart := false }
def LawS930002BRoundTripSaid : Prop := lawS930002BRoundTripRow.holds Yclm.pinned (OpenSpec.ofChange lawS930002BRoundTripSpec)

/-- ITS FALSE NEIGHBOUR: 'it returns false'. Refute it at one input. -/
def lawS930002BRoundTripWrong : ChangeSpec := { name := "lawS930002BRoundTrip", fn := fun _ => fun
  | [d1, d2] => { results := [.lit (.bool false)], args := [d1, d2] }
  | _ => none }
def LawS930002BRoundTripWrongFalsely : Prop := lawS930002BRoundTripRow.holds Yclm.pinned (OpenSpec.ofChange lawS930002BRoundTripWrong)

/-- 'rle.LawS930002CExact': WHATEVER THE INPUT: true; the input reads as it did. -/
def lawS930002CExactSpec : ChangeSpec := { name := "lawS930002CExact", fn := fun _ => fun
  | [d1, d2] => { results := [.lit (.bool true)], args := [d1, d2] }
  | _ => none }
def lawS930002CExactRow : OpenClaim := { program := "ymbrcl", sum := "8c923160bec71658fe3b993135aded60727c2eec9ff75fd4ebe730e5a1046034", func := "example.com/own/rle.LawS930002CExact", spec := "lawS930002CExact", apart := false }
def LawS930002CExactSaid : Prop := lawS930002CExactRow.holds Yclm.pinned (OpenSpec.ofChange lawS930002CExactSpec)

/-- ITS FALSE NEIGHBOUR: 'it returns false'. Refute it at one input. -/
def lawS930002CExactWrong : ChangeSpec := { name := "lawS930002CExact", fn := fun _ => fun
  | [d1, d2] => { results := [.lit (.bool false)], args := [d1, d2] }
  | _ => none }
def LawS930002CExactWrongFalsely : Prop := lawS930002CExactRow.holds Yclm.pinned (OpenSpec.ofChange lawS930002CExactWrong)

/-- 'rle.LawS930002CBuilt': WHATEVER THE INPUT: true; the input reads as it did. -/
def lawS930002CBuiltSpec : ChangeSpec := { name := "lawS930002CBuilt", fn := fun _ => fun
  | [d1, d2, d3, d4, d5] => { results := [.lit (.bool true)], args := [d1, d2, d3, d4, d5] }
  | _ => none }
def lawS930002CBuiltRow : OpenClaim := { program := "ymbrcl", sum := "8c923160bec71658fe3b993135aded60727c2eec9ff75fd4ebe730e5a1046034", func := "example.com/own/rle.LawS930002CBuilt", spec := "lawS930002CBuilt", apart := false }
def LawS930002CBuiltSaid : Prop := lawS930002CBuiltRow.holds Yclm.pinned (OpenSpec.ofChange lawS930002CBuiltSpec)

/-- ITS FALSE NEIGHBOUR: 'it returns false'. Refute it at one input. -/
def lawS930002CBuiltWrong : ChangeSpec := { name := "lawS930002CBuilt", fn := fun _ => fun
  | [d1, d2, d3, d4, d5] => { results := [.lit (.bool false)], args := [d1, d2, d3, d4, d5] }
  | _ => none }
def LawS930002CBuiltWrongFalsely : Prop := lawS930002CBuiltRow.holds Yclm.pinned (OpenSpec.ofChange lawS930002CBuiltWrong)

/-- 'rle.LawS930002CStep': WHATEVER THE INPUT: true; the input reads as it did. -/
def lawS930002CStepSpec : ChangeSpec := { name := "lawS930002CStep", fn := fun _ => fun
  | [d1, d2] => { results := [.lit (.bool true)], args := [d1, d2] }
  | _ => none }
def lawS930002CStepRow : OpenClaim := { program := "ymbrcl", sum := "8c923160bec71658fe3b993135aded60727c2eec9ff75fd4ebe730e5a1046034", func := "example.com/own/rle.LawS930002CStep", spec := "lawS930002CStep", apart := false }
def LawS930002CStepSaid : Prop := lawS930002CStepRow.holds Yclm.pinned (OpenSpec.ofChange lawS930002CStepSpec)

/-- ITS FALSE NEIGHBOUR: 'it returns false'. Refute it at one input. -/
def lawS930002CStepWrong : ChangeSpec := { name := "lawS930002CStep", fn := fun _ => fun
  | [d1, d2] => { results := [.lit (.bool false)], args := [d1, d2] }
  | _ => none }
def LawS930002CStepWrongFalsely : Prop := lawS930002CStepRow.holds Yclm.pinned (OpenSpec.ofChange lawS930002CStepWrong)

/-- 'rle.LawS930002DCode': WHATEVER THE INPUT: true; the input reads as it did. -/
def lawS930002DCodeSpec : ChangeSpec := { name := "lawS930002DCode", fn := fun _ => fun
  | [d] => { results := [.lit (.bool true)], args := [d] }
  | _ => none }
def lawS930002DCodeRow : OpenClaim := { program := "ymbrcl", sum := "8c923160bec71658fe3b993135aded60727c2eec9ff75fd4ebe730e5a1046034", func := "example.com/own/rle.LawS930002DCode", spec := "lawS930002DCode", apart := false }
def LawS930002DCodeSaid : Prop := lawS930002DCodeRow.holds Yclm.pinned (OpenSpec.ofChange lawS930002DCodeSpec)

/-- ITS FALSE NEIGHBOUR: 'it returns false'. Refute it at one input. -/
def lawS930002DCodeWrong : ChangeSpec := { name := "lawS930002DCode", fn := fun _ => fun
  | [d] => { results := [.lit (.bool false)], args := [d] }
  | _ => none }
def LawS930002DCodeWrongFalsely : Prop := lawS930002DCodeRow.holds Yclm.pinned (OpenSpec.ofChange lawS930002DCodeWrong)

/-- 'rle.LawS930002DReencode': WHATEVER THE INPUT: true; the input reads as it did. -/
def lawS930002DReencodeSpec : ChangeSpec := { name := "lawS930002DReencode", fn := fun _ => fun
  | [d] => { results := [.lit (.bool true)], args := [d] }
  | _ => none }
def lawS930002DReencodeRow : OpenClaim := { program := "ymbrcl", sum := "8c923160bec71658fe3b993135aded60727c2eec9ff75fd4ebe730e5a1046034", func := "example.com/own/rle.LawS930002DReencode", spec := "lawS930002DReencode", apart := false }
def LawS930002DReencodeSaid : Prop := lawS930002DReencodeRow.holds Yclm.pinned (OpenSpec.ofChange lawS930002DReencodeSpec)

/-- ITS FALSE NEIGHBOUR: 'it returns false'. Refute it at one input. -/
def lawS930002DReencodeWrong : ChangeSpec := { name := "lawS930002DReencode", fn := fun _ => fun
  | [d] => { results := [.lit (.bool false)], args := [d] }
  | _ => none }
def LawS930002DReencodeWrongFalsely : Prop := lawS930002DReencodeRow.holds Yclm.pinned (OpenSpec.ofChange lawS930002DReencodeWrong)

/-- 'rle.LawS930002DSplit': WHATEVER THE INPUT: true; the input reads as it did. -/
def lawS930002DSplitSpec : ChangeSpec := { name := "lawS930002DSplit", fn := fun _ => fun
  | [d1, d2, d3] => { results := [.lit (.bool true)], args := [d1, d2, d3] }
  | _ => none }
def lawS930002DSplitRow : OpenClaim := { program := "ymbrcl", sum := "8c923160bec71658fe3b993135aded60727c2eec9ff75fd4ebe730e5a1046034", func := "example.com/own/rle.LawS930002DSplit", spec := "lawS930002DSplit", apart := false }
def LawS930002DSplitSaid : Prop := lawS930002DSplitRow.holds Yclm.pinned (OpenSpec.ofChange lawS930002DSplitSpec)

/-- ITS FALSE NEIGHBOUR: 'it returns false'. Refute it at one input. -/
def lawS930002DSplitWrong : ChangeSpec := { name := "lawS930002DSplit", fn := fun _ => fun
  | [d1, d2, d3] => { results := [.lit (.bool false)], args := [d1, d2, d3] }
  | _ => none }
def LawS930002DSplitWrongFalsely : Prop := lawS930002DSplitRow.holds Yclm.pinned (OpenSpec.ofChange lawS930002DSplitWrong)

end Rows
end Go.Proofs.Ymbrcl
