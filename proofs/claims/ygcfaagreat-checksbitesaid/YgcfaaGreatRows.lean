/-
  No cell of these rows narrows 'for every input' (looked for: loops, veiled, ifaces, maps, wideKeys, modest, calm, conditions, laid).
  DERIVED. THE GIVEN ROWS OF THIS SEAT. 1 by the template 'for every input the law returns true; each argument reads behind the call as it read before'; 0 by the template 'total and deterministic' (their statements: YgcfaaGreatTotals.lean).
  GIVEN WITH THE SEED: the statements are not yours to turn. If you find one false, say at which input.
  Laid BY PROGRAM, IN A SANDBOX (cutbox-rows.mjs): the forced cells as the released guide's own fill.sh prints them over the translation ce04004c66d472e5… (all of the seat's roots in one cut). By AI agents, Wed Nov 11 2026. No macro, syntax, notation, axiom, sorry.
-/
import Derived.Test.YgcfaaGreatChecked
import GoSem.Claim
import GoSem.ClaimJoined
import GoSem.ClaimMapViews
import Derived.JoinedTies
import Derived.KernelRfl
namespace Go.Proofs.YgcfaaGreat
/- THE CELL 'sum', in the pinned program and in every row, IS THE sha256 OF THE DUMP (.gsa) THAT YgcfaaGreatProg.lean LOADS. Nothing in Lean hashes anything: it is a label: what it is worth is what the hold of that sum in a sandbox is worth. -/
noncomputable def Faag.pinned : Pinned := { name := "ygcfaagreat", sum := "ce04004c66d472e55eb653a581542449b1622b9662cbf16d41b6e27e8003ba1f", checked := Faag.checked }
namespace Rows
def none {H : Type} : Left H := { results := [], args := [] }

/-- 'law.ChecksBite': WHATEVER THE INPUT: true; the input reads as it did. -/
def checksBiteSpec : ChangeSpec := { name := "checksBite", fn := fun _ => fun
  | [d1, d2, d3] => { results := [.lit (.bool true)], args := [d1, d2, d3] }
  | _ => none }
def checksBiteRow : OpenClaim := { program := "ygcfaagreat", sum := "ce04004c66d472e55eb653a581542449b1622b9662cbf16d41b6e27e8003ba1f", func := "wordview/law.ChecksBite", spec := "checksBite", apart := false }
def ChecksBiteSaid : Prop := checksBiteRow.holds Faag.pinned (OpenSpec.ofChange checksBiteSpec)

/-- ITS FALSE NEIGHBOUR: 'it returns false'. Refute it at one input. -/
def checksBiteWrong : ChangeSpec := { name := "checksBite", fn := fun _ => fun
  | [d1, d2, d3] => { results := [.lit (.bool false)], args := [d1, d2, d3] }
  | _ => none }
def ChecksBiteWrongFalsely : Prop := checksBiteRow.holds Faag.pinned (OpenSpec.ofChange checksBiteWrong)

end Rows
end Go.Proofs.YgcfaaGreat
