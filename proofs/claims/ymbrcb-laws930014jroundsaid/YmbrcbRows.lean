/-
  No cell of these rows narrows 'for every input' (looked for: loops, veiled, ifaces, maps, wideKeys, modest, calm, conditions, laid).
  DERIVED. THE GIVEN ROWS OF THIS SEAT. 4 by the template 'for every input the law returns true; each argument reads behind the call as it read before'; 0 by the template 'total and deterministic' (their statements: YmbrcbTotals.lean).
  GIVEN WITH THE SEED: the statements are not yours to turn. If you find one false, say at which input.
  Laid BY PROGRAM, IN A SANDBOX (cutbox-rows.mjs): the forced cells as the released guide's own fill.sh prints them over the translation e3629076fb043fb2… (all of the seat's roots in one cut). By AI agents, Wed Nov 11 2026. No macro, syntax, notation, axiom, sorry.
-/
import Derived.Test.YmbrcbChecked
import GoSem.Claim
import GoSem.ClaimJoined
import GoSem.ClaimMapViews
import Derived.JoinedTies
import Derived.KernelRfl
namespace Go.Proofs.Ymbrcb
/- THE CELL 'sum', in the pinned program and in every row, IS THE sha256 OF THE DUMP (.gsa) THAT YmbrcbProg.lean LOADS. Nothing in Lean hashes anything: it is a label: what it is worth is what the hold of that sum in a sandbox is worth. -/
noncomputable def Ycbm.pinned : Pinned := { name := "ymbrcb", sum := "e3629076fb043fb269f88aa2ac0863b35d5749023ec5bf6703b2478e6e4a1a54", checked := Ycbm.checked }
namespace Rows
def none {H : Type} : Left H := { results := [], args := [] }

/-- 'glob.LawS930014IDecode': WHATEVER THE INPUT: true; the input reads as it did. -/
def lawS930014IDecodeSpec : ChangeSpec := { name := "lawS930014IDecode", fn := fun _ => fun
  | [d] => { results := [.lit (.bool true)], args := [d] }
  | _ => none }
def lawS930014IDecodeRow : OpenClaim := { program := "ymbrcb", sum := "e3629076fb043fb269f88aa2ac0863b35d5749023ec5bf6703b2478e6e4a1a54", func := "example.com/own/glob.LawS930014IDecode", spec := "lawS930014IDecode", apart := false }
def LawS930014IDecodeSaid : Prop := lawS930014IDecodeRow.holds Ycbm.pinned (OpenSpec.ofChange lawS930014IDecodeSpec)

/-- ITS FALSE NEIGHBOUR: 'it returns false'. Refute it at one input. -/
def lawS930014IDecodeWrong : ChangeSpec := { name := "lawS930014IDecode", fn := fun _ => fun
  | [d] => { results := [.lit (.bool false)], args := [d] }
  | _ => none }
def LawS930014IDecodeWrongFalsely : Prop := lawS930014IDecodeRow.holds Ycbm.pinned (OpenSpec.ofChange lawS930014IDecodeWrong)

/-- 'glob.LawS930014IRoom': WHATEVER THE INPUT: true; the input reads as it did. -/
def lawS930014IRoomSpec : ChangeSpec := { name := "lawS930014IRoom", fn := fun _ => fun
  | [d1, d2, d3, d4] => { results := [.lit (.bool true)], args := [d1, d2, d3, d4] }
  | _ => none }
def lawS930014IRoomRow : OpenClaim := { program := "ymbrcb", sum := "e3629076fb043fb269f88aa2ac0863b35d5749023ec5bf6703b2478e6e4a1a54", func := "example.com/own/glob.LawS930014IRoom", spec := "lawS930014IRoom", apart := false }
def LawS930014IRoomSaid : Prop := lawS930014IRoomRow.holds Ycbm.pinned (OpenSpec.ofChange lawS930014IRoomSpec)

/-- ITS FALSE NEIGHBOUR: 'it returns false'. Refute it at one input. -/
def lawS930014IRoomWrong : ChangeSpec := { name := "lawS930014IRoom", fn := fun _ => fun
  | [d1, d2, d3, d4] => { results := [.lit (.bool false)], args := [d1, d2, d3, d4] }
  | _ => none }
def LawS930014IRoomWrongFalsely : Prop := lawS930014IRoomRow.holds Ycbm.pinned (OpenSpec.ofChange lawS930014IRoomWrong)

/-- 'glob.LawS930014JRound': WHATEVER THE INPUT: true; the input reads as it did. -/
def lawS930014JRoundSpec : ChangeSpec := { name := "lawS930014JRound", fn := fun _ => fun
  | [d1, d2, d3, d4] => { results := [.lit (.bool true)], args := [d1, d2, d3, d4] }
  | _ => none }
def lawS930014JRoundRow : OpenClaim := { program := "ymbrcb", sum := "e3629076fb043fb269f88aa2ac0863b35d5749023ec5bf6703b2478e6e4a1a54", func := "example.com/own/glob.LawS930014JRound", spec := "lawS930014JRound", apart := false }
def LawS930014JRoundSaid : Prop := lawS930014JRoundRow.holds Ycbm.pinned (OpenSpec.ofChange lawS930014JRoundSpec)

/-- ITS FALSE NEIGHBOUR: 'it returns false'. Refute it at one input. -/
def lawS930014JRoundWrong : ChangeSpec := { name := "lawS930014JRound", fn := fun _ => fun
  | [d1, d2, d3, d4] => { results := [.lit (.bool false)], args := [d1, d2, d3, d4] }
  | _ => none }
def LawS930014JRoundWrongFalsely : Prop := lawS930014JRoundRow.holds Ycbm.pinned (OpenSpec.ofChange lawS930014JRoundWrong)

/-- 'glob.LawS930014JExact': WHATEVER THE INPUT: true; the input reads as it did. -/
def lawS930014JExactSpec : ChangeSpec := { name := "lawS930014JExact", fn := fun _ => fun
  | [d1, d2, d3, d4] => { results := [.lit (.bool true)], args := [d1, d2, d3, d4] }
  | _ => none }
def lawS930014JExactRow : OpenClaim := { program := "ymbrcb", sum := "e3629076fb043fb269f88aa2ac0863b35d5749023ec5bf6703b2478e6e4a1a54", func := "example.com/own/glob.LawS930014JExact", spec := "lawS930014JExact", apart := false }
def LawS930014JExactSaid : Prop := lawS930014JExactRow.holds Ycbm.pinned (OpenSpec.ofChange lawS930014JExactSpec)

/-- ITS FALSE NEIGHBOUR: 'it returns false'. Refute it at one input. -/
def lawS930014JExactWrong : ChangeSpec := { name := "lawS930014JExact", fn := fun _ => fun
  | [d1, d2, d3, d4] => { results := [.lit (.bool false)], args := [d1, d2, d3, d4] }
  | _ => none }
def LawS930014JExactWrongFalsely : Prop := lawS930014JExactRow.holds Ycbm.pinned (OpenSpec.ofChange lawS930014JExactWrong)

end Rows
end Go.Proofs.Ymbrcb
