/-
  No cell of these rows narrows 'for every input' (looked for: loops, veiled, ifaces, maps, wideKeys, modest, calm, conditions, laid).
  DERIVED. THE GIVEN ROWS OF THIS SEAT. 2 by the template 'for every input the law returns true; each argument reads behind the call as it read before'; 0 by the template 'total and deterministic' (their statements: YmwharTotals.lean).
  GIVEN WITH THE SEED: the statements are not yours to turn. If you find one false, say at which input.
  Laid BY PROGRAM, IN A SANDBOX (cutbox-rows.mjs): the forced cells as the released guide's own fill.sh prints them over the translation 1e26dc7bba85e85f… (all of the seat's roots in one cut). By AI agents, Wed Nov 11 2026. No macro, syntax, notation, axiom, sorry.
-/
import Derived.Test.YmwharChecked
import GoSem.Claim
import GoSem.ClaimJoined
import GoSem.ClaimMapViews
import Derived.JoinedTies
import Derived.KernelRfl
namespace Go.Proofs.Ymwhar
/- THE CELL 'sum', in the pinned program and in every row, IS THE sha256 OF THE DUMP (.gsa) THAT YmwharProg.lean LOADS. Nothing in Lean hashes anything: it is a label: what it is worth is what the hold of that sum in a sandbox is worth. -/
noncomputable def Yarv.pinned : Pinned := { name := "ymwhar", sum := "1e26dc7bba85e85f8580103e24494b6f5ab5a928a69c2d9916e323ebaf67f6a0", checked := Yarv.checked }
namespace Rows
def none {H : Type} : Left H := { results := [], args := [] }

/-- 'heapq.LawS930008QAAWhole': WHATEVER THE INPUT: true; the input reads as it did. -/
def lawS930008QAAWholeSpec : ChangeSpec := { name := "lawS930008QAAWhole", fn := fun _ => fun
  | [d1, d2, d3] => { results := [.lit (.bool true)], args := [d1, d2, d3] }
  | _ => none }
def lawS930008QAAWholeRow : OpenClaim := { program := "ymwhar", sum := "1e26dc7bba85e85f8580103e24494b6f5ab5a928a69c2d9916e323ebaf67f6a0", func := "example.com/own/heapq.LawS930008QAAWhole", spec := "lawS930008QAAWhole", apart := false }
def LawS930008QAAWholeSaid : Prop := lawS930008QAAWholeRow.holds Yarv.pinned (OpenSpec.ofChange lawS930008QAAWholeSpec)

/-- ITS FALSE NEIGHBOUR: 'it returns false'. Refute it at one input. -/
def lawS930008QAAWholeWrong : ChangeSpec := { name := "lawS930008QAAWhole", fn := fun _ => fun
  | [d1, d2, d3] => { results := [.lit (.bool false)], args := [d1, d2, d3] }
  | _ => none }
def LawS930008QAAWholeWrongFalsely : Prop := lawS930008QAAWholeRow.holds Yarv.pinned (OpenSpec.ofChange lawS930008QAAWholeWrong)

/-- 'heapq.LawS930008QABWhole': WHATEVER THE INPUT: true; the input reads as it did. -/
def lawS930008QABWholeSpec : ChangeSpec := { name := "lawS930008QABWhole", fn := fun _ => fun
  | [d1, d2] => { results := [.lit (.bool true)], args := [d1, d2] }
  | _ => none }
def lawS930008QABWholeRow : OpenClaim := { program := "ymwhar", sum := "1e26dc7bba85e85f8580103e24494b6f5ab5a928a69c2d9916e323ebaf67f6a0", func := "example.com/own/heapq.LawS930008QABWhole", spec := "lawS930008QABWhole", apart := false }
def LawS930008QABWholeSaid : Prop := lawS930008QABWholeRow.holds Yarv.pinned (OpenSpec.ofChange lawS930008QABWholeSpec)

/-- ITS FALSE NEIGHBOUR: 'it returns false'. Refute it at one input. -/
def lawS930008QABWholeWrong : ChangeSpec := { name := "lawS930008QABWhole", fn := fun _ => fun
  | [d1, d2] => { results := [.lit (.bool false)], args := [d1, d2] }
  | _ => none }
def LawS930008QABWholeWrongFalsely : Prop := lawS930008QABWholeRow.holds Yarv.pinned (OpenSpec.ofChange lawS930008QABWholeWrong)

end Rows
end Go.Proofs.Ymwhar
