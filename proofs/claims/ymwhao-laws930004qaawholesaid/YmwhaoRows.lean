/-
  No cell of these rows narrows 'for every input' (looked for: loops, veiled, ifaces, maps, wideKeys, modest, calm, conditions, laid).
  DERIVED. THE GIVEN ROWS OF THIS SEAT. 2 by the template 'for every input the law returns true; each argument reads behind the call as it read before'; 0 by the template 'total and deterministic' (their statements: YmwhaoTotals.lean).
  GIVEN WITH THE SEED: the statements are not yours to turn. If you find one false, say at which input.
  Laid BY PROGRAM, IN A SANDBOX (cutbox-rows.mjs): the forced cells as the released guide's own fill.sh prints them over the translation e2773b59c194867c… (all of the seat's roots in one cut). By AI agents, Wed Nov 11 2026. No macro, syntax, notation, axiom, sorry.
-/
import Derived.Test.YmwhaoChecked
import GoSem.Claim
import GoSem.ClaimJoined
import GoSem.ClaimMapViews
import Derived.JoinedTies
import Derived.KernelRfl
namespace Go.Proofs.Ymwhao
/- THE CELL 'sum', in the pinned program and in every row, IS THE sha256 OF THE DUMP (.gsa) THAT YmwhaoProg.lean LOADS. Nothing in Lean hashes anything: it is a label: what it is worth is what the hold of that sum in a sandbox is worth. -/
noncomputable def Yaov.pinned : Pinned := { name := "ymwhao", sum := "e2773b59c194867c50e2225803d0ae78a8338af1a08c5b750310192c3e0f535b", checked := Yaov.checked }
namespace Rows
def none {H : Type} : Left H := { results := [], args := [] }

/-- 'hexdump.LawS930004QAAWhole': WHATEVER THE INPUT: true; the input reads as it did. -/
def lawS930004QAAWholeSpec : ChangeSpec := { name := "lawS930004QAAWhole", fn := fun _ => fun
  | [d1, d2] => { results := [.lit (.bool true)], args := [d1, d2] }
  | _ => none }
def lawS930004QAAWholeRow : OpenClaim := { program := "ymwhao", sum := "e2773b59c194867c50e2225803d0ae78a8338af1a08c5b750310192c3e0f535b", func := "example.com/own/hexdump.LawS930004QAAWhole", spec := "lawS930004QAAWhole", apart := false }
def LawS930004QAAWholeSaid : Prop := lawS930004QAAWholeRow.holds Yaov.pinned (OpenSpec.ofChange lawS930004QAAWholeSpec)

/-- ITS FALSE NEIGHBOUR: 'it returns false'. Refute it at one input. -/
def lawS930004QAAWholeWrong : ChangeSpec := { name := "lawS930004QAAWhole", fn := fun _ => fun
  | [d1, d2] => { results := [.lit (.bool false)], args := [d1, d2] }
  | _ => none }
def LawS930004QAAWholeWrongFalsely : Prop := lawS930004QAAWholeRow.holds Yaov.pinned (OpenSpec.ofChange lawS930004QAAWholeWrong)

/-- 'hexdump.LawS930004QABWhole': WHATEVER THE INPUT: true; the input reads as it did. -/
def lawS930004QABWholeSpec : ChangeSpec := { name := "lawS930004QABWhole", fn := fun _ => fun
  | [d1, d2] => { results := [.lit (.bool true)], args := [d1, d2] }
  | _ => none }
def lawS930004QABWholeRow : OpenClaim := { program := "ymwhao", sum := "e2773b59c194867c50e2225803d0ae78a8338af1a08c5b750310192c3e0f535b", func := "example.com/own/hexdump.LawS930004QABWhole", spec := "lawS930004QABWhole", apart := false }
def LawS930004QABWholeSaid : Prop := lawS930004QABWholeRow.holds Yaov.pinned (OpenSpec.ofChange lawS930004QABWholeSpec)

/-- ITS FALSE NEIGHBOUR: 'it returns false'. Refute it at one input. -/
def lawS930004QABWholeWrong : ChangeSpec := { name := "lawS930004QABWhole", fn := fun _ => fun
  | [d1, d2] => { results := [.lit (.bool false)], args := [d1, d2] }
  | _ => none }
def LawS930004QABWholeWrongFalsely : Prop := lawS930004QABWholeRow.holds Yaov.pinned (OpenSpec.ofChange lawS930004QABWholeWrong)

end Rows
end Go.Proofs.Ymwhao
