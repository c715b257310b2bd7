/-
  No cell of these rows narrows 'for every input' (looked for: loops, veiled, ifaces, maps, wideKeys, modest, calm, conditions, laid).
  DERIVED. THE GIVEN ROWS OF THIS SEAT. 12 by the template 'for every input the law returns true; each argument reads behind the call as it read before'; 0 by the template 'total and deterministic' (their statements: YmbrbzTotals.lean).
  GIVEN WITH THE SEED: the statements are not yours to turn. If you find one false, say at which input.
  Laid BY PROGRAM, IN A SANDBOX (cutbox-rows.mjs): the forced cells as the released guide's own fill.sh prints them over the translation e1e481bbd26164c9… (all of the seat's roots in one cut). By AI agents, Wed Nov 11 2026. No macro, syntax, notation, axiom, sorry.
-/
import Derived.Test.YmbrbzChecked
import GoSem.Claim
import GoSem.ClaimJoined
import GoSem.ClaimMapViews
import Derived.JoinedTies
import Derived.KernelRfl
namespace Go.Proofs.Ymbrbz
/- THE CELL 'sum', in the pinned program and in every row, IS THE sha256 OF THE DUMP (.gsa) THAT YmbrbzProg.lean LOADS. Nothing in Lean hashes anything: it is a label: what it is worth is what the hold of that sum in a sandbox is worth. -/
noncomputable def Ybzm.pinned : Pinned := { name := "ymbrbz", sum := "e1e481bbd26164c9a102488d8cdbccb37fd688c56cfa037850e5848d9766028a", checked := Ybzm.checked }
namespace Rows
def none {H : Type} : Left H := { results := [], args := [] }

/-- 'glob.LawS930014AExact': WHATEVER THE INPUT: true; the input reads as it did. -/
def lawS930014AExactSpec : ChangeSpec := { name := "lawS930014AExact", fn := fun _ => fun
  | [d1, d2, d3, d4, d5, d6, d7] => { results := [.lit (.bool true)], args := [d1, d2, d3, d4, d5, d6, d7] }
  | _ => none }
def lawS930014AExactRow : OpenClaim := { program := "ymbrbz", sum := "e1e481bbd26164c9a102488d8cdbccb37fd688c56cfa037850e5848d9766028a", func := "example.com/own/glob.LawS930014AExact", spec := "lawS930014AExact", apart := false }
def LawS930014AExactSaid : Prop := lawS930014AExactRow.holds Ybzm.pinned (OpenSpec.ofChange lawS930014AExactSpec)

/-- ITS FALSE NEIGHBOUR: 'it returns false'. Refute it at one input. -/
def lawS930014AExactWrong : ChangeSpec := { name := "lawS930014AExact", fn := fun _ => fun
  | [d1, d2, d3, d4, d5, d6, d7] => { results := [.lit (.bool false)], args := [d1, d2, d3, d4, d5, d6, d7] }
  | _ => none }
def LawS930014AExactWrongFalsely : Prop := lawS930014AExactRow.holds Ybzm.pinned (OpenSpec.ofChange lawS930014AExactWrong)

/-- 'glob.LawS930014AParsed': WHATEVER THE INPUT: true; the input reads as it did. -/
def lawS930014AParsedSpec : ChangeSpec := { name := "lawS930014AParsed", fn := fun _ => fun
  | [d1, d2, d3, d4] => { results := [.lit (.bool true)], args := [d1, d2, d3, d4] }
  | _ => none }
def lawS930014AParsedRow : OpenClaim := { program := "ymbrbz", sum := "e1e481bbd26164c9a102488d8cdbccb37fd688c56cfa037850e5848d9766028a", func := "example.com/own/glob.LawS930014AParsed", spec := "lawS930014AParsed", apart := false }
def LawS930014AParsedSaid : Prop := lawS930014AParsedRow.holds Ybzm.pinned (OpenSpec.ofChange lawS930014AParsedSpec)

/-- ITS FALSE NEIGHBOUR: 'it returns false'. Refute it at one input. -/
def lawS930014AParsedWrong : ChangeSpec := { name := "lawS930014AParsed", fn := fun _ => fun
  | [d1, d2, d3, d4] => { results := [.lit (.bool false)], args := [d1, d2, d3, d4] }
  | _ => none }
def LawS930014AParsedWrongFalsely : Prop := lawS930014AParsedRow.holds Ybzm.pinned (OpenSpec.ofChange lawS930014AParsedWrong)

/-- 'glob.LawS930014ASplit': WHATEVER THE INPUT: true; the input reads as it did. -/
def lawS930014ASplitSpec : ChangeSpec := { name := "lawS930014ASplit", fn := fun _ => fun
  | [d1, d2, d3] => { results := [.lit (.bool true)], args := [d1, d2, d3] }
  | _ => none }
def lawS930014ASplitRow : OpenClaim := { program := "ymbrbz", sum := "e1e481bbd26164c9a102488d8cdbccb37fd688c56cfa037850e5848d9766028a", func := "example.com/own/glob.LawS930014ASplit", spec := "lawS930014ASplit", apart := false }
def LawS930014ASplitSaid : Prop := lawS930014ASplitRow.holds Ybzm.pinned (OpenSpec.ofChange lawS930014ASplitSpec)

/-- ITS FALSE NEIGHBOUR: 'it returns false'. Refute it at one input. -/
def lawS930014ASplitWrong : ChangeSpec := { name := "lawS930014ASplit", fn := fun _ => fun
  | [d1, d2, d3] => { results := [.lit (.bool false)], args := [d1, d2, d3] }
  | _ => none }
def LawS930014ASplitWrongFalsely : Prop := lawS930014ASplitRow.holds Ybzm.pinned (OpenSpec.ofChange lawS930014ASplitWrong)

/-- 'glob.LawS930014BAccepts': WHATEVER THE INPUT: true; the input reads as it did. -/
def lawS930014BAcceptsSpec : ChangeSpec := { name := "lawS930014BAccepts", fn := fun _ => fun
  | [d1, d2] => { results := [.lit (.bool true)], args := [d1, d2] }
  | _ => none }
def lawS930014BAcceptsRow : OpenClaim := { program := "ymbrbz", sum := "e1e481bbd26164c9a102488d8cdbccb37fd688c56cfa037850e5848d9766028a", func := "example.com/own/glob.LawS930014BAccepts", spec := "lawS930014BAccepts", apart := false }
def LawS930014BAcceptsSaid : Prop := lawS930014BAcceptsRow.holds Ybzm.pinned (OpenSpec.ofChange lawS930014BAcceptsSpec)

/-- ITS FALSE NEIGHBOUR: 'it returns false'. Refute it at one input. -/
def lawS930014BAcceptsWrong : ChangeSpec := { name := "lawS930014BAccepts", fn := fun _ => fun
  | [d1, d2] => { results := [.lit (.bool false)], args := [d1, d2] }
  | _ => none }
def LawS930014BAcceptsWrongFalsely : Prop := lawS930014BAcceptsRow.holds Ybzm.pinned (OpenSpec.ofChange lawS930014BAcceptsWrong)

/-- 'glob.LawS930014BText': WHATEVER THE INPUT: true; the input reads as it did. -/
def lawS930014BTextSpec : ChangeSpec := { name := "lawS930014BText", fn := fun _ => fun
  | [d] => { results := [.lit (.bool true)], args := [d] }
  | _ => none }
def lawS930014BTextRow : OpenClaim := { program := "ymbrbz", sum := "e1e481bbd26164c9a102488d8cdbccb37fd688c56cfa037850e5848d9766028a", func := "example.com/own/glob.LawS930014BText", spec := "lawS930014BText", apart := false }
def LawS930014BTextSaid : Prop := lawS930014BTextRow.holds Ybzm.pinned (OpenSpec.ofChange lawS930014BTextSpec)

/-- ITS FALSE NEIGHBOUR: 'it returns false'. Refute it at one input. -/
def lawS930014BTextWrong : ChangeSpec := { name := "lawS930014BText", fn := fun _ => fun
  | [d] => { results := [.lit (.bool false)], args := [d] }
  | _ => none }
def LawS930014BTextWrongFalsely : Prop := lawS930014BTextRow.holds Ybzm.pinned (OpenSpec.ofChange lawS930014BTextWrong)

/-- 'glob.LawS930014BRoundTrip': WHATEVER THE INPUT: true; the input reads as it did. -/
def lawS930014BRoundTripSpec : ChangeSpec := { name := "lawS930014BRoundTrip", fn := fun _ => fun
  | [d] => { results := [.lit (.bool true)], args := [d] }
  | _ => none }
def lawS930014BRoundTripRow : OpenClaim := { program := "ymbrbz", sum := "e1e481bbd26164c9a102488d8cdbccb37fd688c56cfa037850e5848d9766028a", func := "example.com/own/glob.LawS930014BRoundTrip", spec := "lawS930014BRoundTrip", apart := false }
def LawS930014BRoundTripSaid : Prop := lawS930014BRoundTripRow.holds Ybzm.pinned (OpenSpec.ofChange lawS930014BRoundTripSpec)

/-- ITS FALSE NEIGHBOUR: 'it returns false'. Refute it at one input. -/
def lawS930014BRoundTripWrong : ChangeSpec := { name := "lawS930014BRoundTrip", fn := fun _ => fun
  | [d] => { results := [.lit (.bool false)], args := [d] }
  | _ => none }
def LawS930014BRoundTripWrongFalsely : Prop := lawS930014BRoundTripRow.holds Ybzm.pinned (OpenSpec.ofChange lawS930014BRoundTripWrong)

/-- 'glob.LawS930014CExact': WHATEVER THE INPUT: true; the input reads as it did. -/
def lawS930014CExactSpec : ChangeSpec := { name := "lawS930014CExact", fn := fun _ => fun
  | [d1, d2] => { results := [.lit (.bool true)], args := [d1, d2] }
  | _ => none }
def lawS930014CExactRow : OpenClaim := { program := "ymbrbz", sum := "e1e481bbd26164c9a102488d8cdbccb37fd688c56cfa037850e5848d9766028a", func := "example.com/own/glob.LawS930014CExact", spec := "lawS930014CExact", apart := false }
def LawS930014CExactSaid : Prop := lawS930014CExactRow.holds Ybzm.pinned (OpenSpec.ofChange lawS930014CExactSpec)

/-- ITS FALSE NEIGHBOUR: 'it returns false'. Refute it at one input. -/
def lawS930014CExactWrong : ChangeSpec := { name := "lawS930014CExact", fn := fun _ => fun
  | [d1, d2] => { results := [.lit (.bool false)], args := [d1, d2] }
  | _ => none }
def LawS930014CExactWrongFalsely : Prop := lawS930014CExactRow.holds Ybzm.pinned (OpenSpec.ofChange lawS930014CExactWrong)

/-- 'glob.LawS930014CBuilt': WHATEVER THE INPUT: true; the input reads as it did. -/
def lawS930014CBuiltSpec : ChangeSpec := { name := "lawS930014CBuilt", fn := fun _ => fun
  | [d1, d2, d3, d4] => { results := [.lit (.bool true)], args := [d1, d2, d3, d4] }
  | _ => none }
def lawS930014CBuiltRow : OpenClaim := { program := "ymbrbz", sum := "e1e481bbd26164c9a102488d8cdbccb37fd688c56cfa037850e5848d9766028a", func := "example.com/own/glob.LawS930014CBuilt", spec := "lawS930014CBuilt", apart := false }
def LawS930014CBuiltSaid : Prop := lawS930014CBuiltRow.holds Ybzm.pinned (OpenSpec.ofChange lawS930014CBuiltSpec)

/-- ITS FALSE NEIGHBOUR: 'it returns false'. Refute it at one input. -/
def lawS930014CBuiltWrong : ChangeSpec := { name := "lawS930014CBuilt", fn := fun _ => fun
  | [d1, d2, d3, d4] => { results := [.lit (.bool false)], args := [d1, d2, d3, d4] }
  | _ => none }
def LawS930014CBuiltWrongFalsely : Prop := lawS930014CBuiltRow.holds Ybzm.pinned (OpenSpec.ofChange lawS930014CBuiltWrong)

/-- 'glob.LawS930014DRoundTrip': WHATEVER THE INPUT: true; the input reads as it did. -/
def lawS930014DRoundTripSpec : ChangeSpec := { name := "lawS930014DRoundTrip", fn := fun _ => fun
  | [d] => { results := [.lit (.bool true)], args := [d] }
  | _ => none }
def lawS930014DRoundTripRow : OpenClaim := { program := "ymbrbz", sum := "e1e481bbd26164c9a102488d8cdbccb37fd688c56cfa037850e5848d9766028a", func := "example.com/own/glob.LawS930014DRoundTrip", spec := "lawS930014DRoundTrip", apart := false }
def LawS930014DRoundTripSaid : Prop := lawS930014DRoundTripRow.holds Ybzm.pinned (OpenSpec.ofChange lawS930014DRoundTripSpec)

/-- ITS FALSE NEIGHBOUR: 'it returns false'. Refute it at one input. -/
def lawS930014DRoundTripWrong : ChangeSpec := { name := "lawS930014DRoundTrip", fn := fun _ => fun
  | [d] => { results := [.lit (.bool false)], args := [d] }
  | _ => none }
def LawS930014DRoundTripWrongFalsely : Prop := lawS930014DRoundTripRow.holds Ybzm.pinned (OpenSpec.ofChange lawS930014DRoundTripWrong)

/-- 'glob.LawS930014DAutomaton': WHATEVER THE INPUT: true; the input reads as it did. -/
def lawS930014DAutomatonSpec : ChangeSpec := { name := "lawS930014DAutomaton", fn := fun _ => fun
  | [d1, d2] => { results := [.lit (.bool true)], args := [d1, d2] }
  | _ => none }
def lawS930014DAutomatonRow : OpenClaim := { program := "ymbrbz", sum := "e1e481bbd26164c9a102488d8cdbccb37fd688c56cfa037850e5848d9766028a", func := "example.com/own/glob.LawS930014DAutomaton", spec := "lawS930014DAutomaton", apart := false }
def LawS930014DAutomatonSaid : Prop := lawS930014DAutomatonRow.holds Ybzm.pinned (OpenSpec.ofChange lawS930014DAutomatonSpec)

/-- ITS FALSE NEIGHBOUR: 'it returns false'. Refute it at one input. -/
def lawS930014DAutomatonWrong : ChangeSpec := { name := "lawS930014DAutomaton", fn := fun _ => fun
  | [d1, d2] => { results := [.lit (.bool false)], args := [d1, d2] }
  | _ => none }
def LawS930014DAutomatonWrongFalsely : Prop := lawS930014DAutomatonRow.holds Ybzm.pinned (OpenSpec.ofChange lawS930014DAutomatonWrong)

/-- 'glob.LawS930014DConcat': WHATEVER THE INPUT: true; the input reads as it did. -/
def lawS930014DConcatSpec : ChangeSpec := { name := "lawS930014DConcat", fn := fun _ => fun
  | [d1, d2] => { results := [.lit (.bool true)], args := [d1, d2] }
  | _ => none }
def lawS930014DConcatRow : OpenClaim := { program := "ymbrbz", sum := "e1e481bbd26164c9a102488d8cdbccb37fd688c56cfa037850e5848d9766028a", func := "example.com/own/glob.LawS930014DConcat", spec := "lawS930014DConcat", apart := false }
def LawS930014DConcatSaid : Prop := lawS930014DConcatRow.holds Ybzm.pinned (OpenSpec.ofChange lawS930014DConcatSpec)

/-- ITS FALSE NEIGHBOUR: 'it returns false'. Refute it at one input. -/
def lawS930014DConcatWrong : ChangeSpec := { name := "lawS930014DConcat", fn := fun _ => fun
  | [d1, d2] => { results := [.lit (.bool false)], args := [d1, d2] }
  | _ => none }
def LawS930014DConcatWrongFalsely : Prop := lawS930014DConcatRow.holds Ybzm.pinned (OpenSpec.ofChange lawS930014DConcatWrong)

/-- 'glob.LawS930014EExact': WHATEVER THE INPUT: true; the input reads as it did. -/
def lawS930014EExactSpec : ChangeSpec := { name := "lawS930014EExact", fn := fun _ => fun
  | [d] => { results := [.lit (.bool true)], args := [d] }
  | _ => none }
def lawS930014EExactRow : OpenClaim := { program := "ymbrbz", sum := "e1e481bbd26164c9a102488d8cdbccb37fd688c56cfa037850e5848d9766028a", func := "example.com/own/glob.LawS930014EExact", spec := "lawS930014EExact", apart := false }
def LawS930014EExactSaid : Prop := lawS930014EExactRow.holds Ybzm.pinned (OpenSpec.ofChange lawS930014EExactSpec)

/-- ITS FALSE NEIGHBOUR: 'it returns false'. Refute it at one input. -/
def lawS930014EExactWrong : ChangeSpec := { name := "lawS930014EExact", fn := fun _ => fun
  | [d] => { results := [.lit (.bool false)], args := [d] }
  | _ => none }
def LawS930014EExactWrongFalsely : Prop := lawS930014EExactRow.holds Ybzm.pinned (OpenSpec.ofChange lawS930014EExactWrong)

end Rows
end Go.Proofs.Ymbrbz
