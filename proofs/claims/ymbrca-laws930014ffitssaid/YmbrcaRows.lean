/-
  No cell of these rows narrows 'for every input' (looked for: loops, veiled, ifaces, maps, wideKeys, modest, calm, conditions, laid).
  DERIVED. THE GIVEN ROWS OF THIS SEAT. 12 by the template 'for every input the law returns true; each argument reads behind the call as it read before'; 0 by the template 'total and deterministic' (their statements: YmbrcaTotals.lean).
  GIVEN WITH THE SEED: the statements are not yours to turn. If you find one false, say at which input.
  Laid BY PROGRAM, IN A SANDBOX (cutbox-rows.mjs): the forced cells as the released guide's own fill.sh prints them over the translation b65a6d687f747112… (all of the seat's roots in one cut). By AI agents, Wed Nov 11 2026. No macro, syntax, notation, axiom, sorry.
-/
import Derived.Test.YmbrcaChecked
import GoSem.Claim
import GoSem.ClaimJoined
import GoSem.ClaimMapViews
import Derived.JoinedTies
import Derived.KernelRfl
namespace Go.Proofs.Ymbrca
/- THE CELL 'sum', in the pinned program and in every row, IS THE sha256 OF THE DUMP (.gsa) THAT YmbrcaProg.lean LOADS. Nothing in Lean hashes anything: it is a label: what it is worth is what the hold of that sum in a sandbox is worth. -/
noncomputable def Ycam.pinned : Pinned := { name := "ymbrca", sum := "b65a6d687f747112bfcb8a5b14a114d3d8d1336352e8b152aa73d1ed4b2be3a8", checked := Ycam.checked }
namespace Rows
def none {H : Type} : Left H := { results := [], args := [] }

/-- 'glob.LawS930014EUnquote': WHATEVER THE INPUT: true; the input reads as it did. -/
def lawS930014EUnquoteSpec : ChangeSpec := { name := "lawS930014EUnquote", fn := fun _ => fun
  | [d1, d2] => { results := [.lit (.bool true)], args := [d1, d2] }
  | _ => none }
def lawS930014EUnquoteRow : OpenClaim := { program := "ymbrca", sum := "b65a6d687f747112bfcb8a5b14a114d3d8d1336352e8b152aa73d1ed4b2be3a8", func := "example.com/own/glob.LawS930014EUnquote", spec := "lawS930014EUnquote", apart := false }
def LawS930014EUnquoteSaid : Prop := lawS930014EUnquoteRow.holds Ycam.pinned (OpenSpec.ofChange lawS930014EUnquoteSpec)

/-- ITS FALSE NEIGHBOUR: 'it returns false'. Refute it at one input. -/
def lawS930014EUnquoteWrong : ChangeSpec := { name := "lawS930014EUnquote", fn := fun _ => fun
  | [d1, d2] => { results := [.lit (.bool false)], args := [d1, d2] }
  | _ => none }
def LawS930014EUnquoteWrongFalsely : Prop := lawS930014EUnquoteRow.holds Ycam.pinned (OpenSpec.ofChange lawS930014EUnquoteWrong)

/-- 'glob.LawS930014EConcat': WHATEVER THE INPUT: true; the input reads as it did. -/
def lawS930014EConcatSpec : ChangeSpec := { name := "lawS930014EConcat", fn := fun _ => fun
  | [d1, d2] => { results := [.lit (.bool true)], args := [d1, d2] }
  | _ => none }
def lawS930014EConcatRow : OpenClaim := { program := "ymbrca", sum := "b65a6d687f747112bfcb8a5b14a114d3d8d1336352e8b152aa73d1ed4b2be3a8", func := "example.com/own/glob.LawS930014EConcat", spec := "lawS930014EConcat", apart := false }
def LawS930014EConcatSaid : Prop := lawS930014EConcatRow.holds Ycam.pinned (OpenSpec.ofChange lawS930014EConcatSpec)

/-- ITS FALSE NEIGHBOUR: 'it returns false'. Refute it at one input. -/
def lawS930014EConcatWrong : ChangeSpec := { name := "lawS930014EConcat", fn := fun _ => fun
  | [d1, d2] => { results := [.lit (.bool false)], args := [d1, d2] }
  | _ => none }
def LawS930014EConcatWrongFalsely : Prop := lawS930014EConcatRow.holds Ycam.pinned (OpenSpec.ofChange lawS930014EConcatWrong)

/-- 'glob.LawS930014FSpec': WHATEVER THE INPUT: true; the input reads as it did. -/
def lawS930014FSpecSpec : ChangeSpec := { name := "lawS930014FSpec", fn := fun _ => fun
  | [d1, d2] => { results := [.lit (.bool true)], args := [d1, d2] }
  | _ => none }
def lawS930014FSpecRow : OpenClaim := { program := "ymbrca", sum := "b65a6d687f747112bfcb8a5b14a114d3d8d1336352e8b152aa73d1ed4b2be3a8", func := "example.com/own/glob.LawS930014FSpec", spec := "lawS930014FSpec", apart := false }
def LawS930014FSpecSaid : Prop := lawS930014FSpecRow.holds Ycam.pinned (OpenSpec.ofChange lawS930014FSpecSpec)

/-- ITS FALSE NEIGHBOUR: 'it returns false'. Refute it at one input. -/
def lawS930014FSpecWrong : ChangeSpec := { name := "lawS930014FSpec", fn := fun _ => fun
  | [d1, d2] => { results := [.lit (.bool false)], args := [d1, d2] }
  | _ => none }
def LawS930014FSpecWrongFalsely : Prop := lawS930014FSpecRow.holds Ycam.pinned (OpenSpec.ofChange lawS930014FSpecWrong)

/-- 'glob.LawS930014FConcat': WHATEVER THE INPUT: true; the input reads as it did. -/
def lawS930014FConcatSpec : ChangeSpec := { name := "lawS930014FConcat", fn := fun _ => fun
  | [d1, d2, d3] => { results := [.lit (.bool true)], args := [d1, d2, d3] }
  | _ => none }
def lawS930014FConcatRow : OpenClaim := { program := "ymbrca", sum := "b65a6d687f747112bfcb8a5b14a114d3d8d1336352e8b152aa73d1ed4b2be3a8", func := "example.com/own/glob.LawS930014FConcat", spec := "lawS930014FConcat", apart := false }
def LawS930014FConcatSaid : Prop := lawS930014FConcatRow.holds Ycam.pinned (OpenSpec.ofChange lawS930014FConcatSpec)

/-- ITS FALSE NEIGHBOUR: 'it returns false'. Refute it at one input. -/
def lawS930014FConcatWrong : ChangeSpec := { name := "lawS930014FConcat", fn := fun _ => fun
  | [d1, d2, d3] => { results := [.lit (.bool false)], args := [d1, d2, d3] }
  | _ => none }
def LawS930014FConcatWrongFalsely : Prop := lawS930014FConcatRow.holds Ycam.pinned (OpenSpec.ofChange lawS930014FConcatWrong)

/-- 'glob.LawS930014FFits': WHATEVER THE INPUT: true; the input reads as it did. -/
def lawS930014FFitsSpec : ChangeSpec := { name := "lawS930014FFits", fn := fun _ => fun
  | [d1, d2, d3, d4] => { results := [.lit (.bool true)], args := [d1, d2, d3, d4] }
  | _ => none }
def lawS930014FFitsRow : OpenClaim := { program := "ymbrca", sum := "b65a6d687f747112bfcb8a5b14a114d3d8d1336352e8b152aa73d1ed4b2be3a8", func := "example.com/own/glob.LawS930014FFits", spec := "lawS930014FFits", apart := false }
def LawS930014FFitsSaid : Prop := lawS930014FFitsRow.holds Ycam.pinned (OpenSpec.ofChange lawS930014FFitsSpec)

/-- ITS FALSE NEIGHBOUR: 'it returns false'. Refute it at one input. -/
def lawS930014FFitsWrong : ChangeSpec := { name := "lawS930014FFits", fn := fun _ => fun
  | [d1, d2, d3, d4] => { results := [.lit (.bool false)], args := [d1, d2, d3, d4] }
  | _ => none }
def LawS930014FFitsWrongFalsely : Prop := lawS930014FFitsRow.holds Ycam.pinned (OpenSpec.ofChange lawS930014FFitsWrong)

/-- 'glob.LawS930014GExact': WHATEVER THE INPUT: true; the input reads as it did. -/
def lawS930014GExactSpec : ChangeSpec := { name := "lawS930014GExact", fn := fun _ => fun
  | [d1, d2, d3] => { results := [.lit (.bool true)], args := [d1, d2, d3] }
  | _ => none }
def lawS930014GExactRow : OpenClaim := { program := "ymbrca", sum := "b65a6d687f747112bfcb8a5b14a114d3d8d1336352e8b152aa73d1ed4b2be3a8", func := "example.com/own/glob.LawS930014GExact", spec := "lawS930014GExact", apart := false }
def LawS930014GExactSaid : Prop := lawS930014GExactRow.holds Ycam.pinned (OpenSpec.ofChange lawS930014GExactSpec)

/-- ITS FALSE NEIGHBOUR: 'it returns false'. Refute it at one input. -/
def lawS930014GExactWrong : ChangeSpec := { name := "lawS930014GExact", fn := fun _ => fun
  | [d1, d2, d3] => { results := [.lit (.bool false)], args := [d1, d2, d3] }
  | _ => none }
def LawS930014GExactWrongFalsely : Prop := lawS930014GExactRow.holds Ycam.pinned (OpenSpec.ofChange lawS930014GExactWrong)

/-- 'glob.LawS930014GModes': WHATEVER THE INPUT: true; the input reads as it did. -/
def lawS930014GModesSpec : ChangeSpec := { name := "lawS930014GModes", fn := fun _ => fun
  | [d1, d2] => { results := [.lit (.bool true)], args := [d1, d2] }
  | _ => none }
def lawS930014GModesRow : OpenClaim := { program := "ymbrca", sum := "b65a6d687f747112bfcb8a5b14a114d3d8d1336352e8b152aa73d1ed4b2be3a8", func := "example.com/own/glob.LawS930014GModes", spec := "lawS930014GModes", apart := false }
def LawS930014GModesSaid : Prop := lawS930014GModesRow.holds Ycam.pinned (OpenSpec.ofChange lawS930014GModesSpec)

/-- ITS FALSE NEIGHBOUR: 'it returns false'. Refute it at one input. -/
def lawS930014GModesWrong : ChangeSpec := { name := "lawS930014GModes", fn := fun _ => fun
  | [d1, d2] => { results := [.lit (.bool false)], args := [d1, d2] }
  | _ => none }
def LawS930014GModesWrongFalsely : Prop := lawS930014GModesRow.holds Ycam.pinned (OpenSpec.ofChange lawS930014GModesWrong)

/-- 'glob.LawS930014GRoundTrip': WHATEVER THE INPUT: true; the input reads as it did. -/
def lawS930014GRoundTripSpec : ChangeSpec := { name := "lawS930014GRoundTrip", fn := fun _ => fun
  | [d1, d2, d3] => { results := [.lit (.bool true)], args := [d1, d2, d3] }
  | _ => none }
def lawS930014GRoundTripRow : OpenClaim := { program := "ymbrca", sum := "b65a6d687f747112bfcb8a5b14a114d3d8d1336352e8b152aa73d1ed4b2be3a8", func := "example.com/own/glob.LawS930014GRoundTrip", spec := "lawS930014GRoundTrip", apart := false }
def LawS930014GRoundTripSaid : Prop := lawS930014GRoundTripRow.holds Ycam.pinned (OpenSpec.ofChange lawS930014GRoundTripSpec)

/-- ITS FALSE NEIGHBOUR: 'it returns false'. Refute it at one input. -/
def lawS930014GRoundTripWrong : ChangeSpec := { name := "lawS930014GRoundTrip", fn := fun _ => fun
  | [d1, d2, d3] => { results := [.lit (.bool false)], args := [d1, d2, d3] }
  | _ => none }
def LawS930014GRoundTripWrongFalsely : Prop := lawS930014GRoundTripRow.holds Ycam.pinned (OpenSpec.ofChange lawS930014GRoundTripWrong)

/-- 'glob.LawS930014HMembers': WHATEVER THE INPUT: true; the input reads as it did. -/
def lawS930014HMembersSpec : ChangeSpec := { name := "lawS930014HMembers", fn := fun _ => fun
  | [d1, d2] => { results := [.lit (.bool true)], args := [d1, d2] }
  | _ => none }
def lawS930014HMembersRow : OpenClaim := { program := "ymbrca", sum := "b65a6d687f747112bfcb8a5b14a114d3d8d1336352e8b152aa73d1ed4b2be3a8", func := "example.com/own/glob.LawS930014HMembers", spec := "lawS930014HMembers", apart := false }
def LawS930014HMembersSaid : Prop := lawS930014HMembersRow.holds Ycam.pinned (OpenSpec.ofChange lawS930014HMembersSpec)

/-- ITS FALSE NEIGHBOUR: 'it returns false'. Refute it at one input. -/
def lawS930014HMembersWrong : ChangeSpec := { name := "lawS930014HMembers", fn := fun _ => fun
  | [d1, d2] => { results := [.lit (.bool false)], args := [d1, d2] }
  | _ => none }
def LawS930014HMembersWrongFalsely : Prop := lawS930014HMembersRow.holds Ycam.pinned (OpenSpec.ofChange lawS930014HMembersWrong)

/-- 'glob.LawS930014HSplit': WHATEVER THE INPUT: true; the input reads as it did. -/
def lawS930014HSplitSpec : ChangeSpec := { name := "lawS930014HSplit", fn := fun _ => fun
  | [d1, d2, d3] => { results := [.lit (.bool true)], args := [d1, d2, d3] }
  | _ => none }
def lawS930014HSplitRow : OpenClaim := { program := "ymbrca", sum := "b65a6d687f747112bfcb8a5b14a114d3d8d1336352e8b152aa73d1ed4b2be3a8", func := "example.com/own/glob.LawS930014HSplit", spec := "lawS930014HSplit", apart := false }
def LawS930014HSplitSaid : Prop := lawS930014HSplitRow.holds Ycam.pinned (OpenSpec.ofChange lawS930014HSplitSpec)

/-- ITS FALSE NEIGHBOUR: 'it returns false'. Refute it at one input. -/
def lawS930014HSplitWrong : ChangeSpec := { name := "lawS930014HSplit", fn := fun _ => fun
  | [d1, d2, d3] => { results := [.lit (.bool false)], args := [d1, d2, d3] }
  | _ => none }
def LawS930014HSplitWrongFalsely : Prop := lawS930014HSplitRow.holds Ycam.pinned (OpenSpec.ofChange lawS930014HSplitWrong)

/-- 'glob.LawS930014HEnds': WHATEVER THE INPUT: true; the input reads as it did. -/
def lawS930014HEndsSpec : ChangeSpec := { name := "lawS930014HEnds", fn := fun _ => fun
  | [d1, d2] => { results := [.lit (.bool true)], args := [d1, d2] }
  | _ => none }
def lawS930014HEndsRow : OpenClaim := { program := "ymbrca", sum := "b65a6d687f747112bfcb8a5b14a114d3d8d1336352e8b152aa73d1ed4b2be3a8", func := "example.com/own/glob.LawS930014HEnds", spec := "lawS930014HEnds", apart := false }
def LawS930014HEndsSaid : Prop := lawS930014HEndsRow.holds Ycam.pinned (OpenSpec.ofChange lawS930014HEndsSpec)

/-- ITS FALSE NEIGHBOUR: 'it returns false'. Refute it at one input. -/
def lawS930014HEndsWrong : ChangeSpec := { name := "lawS930014HEnds", fn := fun _ => fun
  | [d1, d2] => { results := [.lit (.bool false)], args := [d1, d2] }
  | _ => none }
def LawS930014HEndsWrongFalsely : Prop := lawS930014HEndsRow.holds Ycam.pinned (OpenSpec.ofChange lawS930014HEndsWrong)

/-- 'glob.LawS930014IExact': WHATEVER THE INPUT: true; the input reads as it did. -/
def lawS930014IExactSpec : ChangeSpec := { name := "lawS930014IExact", fn := fun _ => fun
  | [d1, d2, d3] => { results := [.lit (.bool true)], args := [d1, d2, d3] }
  | _ => none }
def lawS930014IExactRow : OpenClaim := { program := "ymbrca", sum := "b65a6d687f747112bfcb8a5b14a114d3d8d1336352e8b152aa73d1ed4b2be3a8", func := "example.com/own/glob.LawS930014IExact", spec := "lawS930014IExact", apart := false }
def LawS930014IExactSaid : Prop := lawS930014IExactRow.holds Ycam.pinned (OpenSpec.ofChange lawS930014IExactSpec)

/-- ITS FALSE NEIGHBOUR: 'it returns false'. Refute it at one input. -/
def lawS930014IExactWrong : ChangeSpec := { name := "lawS930014IExact", fn := fun _ => fun
  | [d1, d2, d3] => { results := [.lit (.bool false)], args := [d1, d2, d3] }
  | _ => none }
def LawS930014IExactWrongFalsely : Prop := lawS930014IExactRow.holds Ycam.pinned (OpenSpec.ofChange lawS930014IExactWrong)

end Rows
end Go.Proofs.Ymbrca
