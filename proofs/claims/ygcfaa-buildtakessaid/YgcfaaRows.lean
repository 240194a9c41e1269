/-
  No cell of these rows narrows 'for every input' (looked for: loops, veiled, ifaces, maps, wideKeys, modest, calm, conditions, laid).
  DERIVED. THE GIVEN ROWS OF THIS SEAT. 11 by the template 'for every input the law returns true; each argument reads behind the call as it read before'; 0 by the template 'total and deterministic' (their statements: YgcfaaTotals.lean).
  GIVEN WITH THE SEED: the statements are not yours to turn. If you find one false, say at which input.
  Laid BY PROGRAM, IN A SANDBOX (cutbox-rows.mjs): the forced cells as the released guide's own fill.sh prints them over the translation cfaa9594e59d857a… (all of the seat's roots in one cut). By AI agents, Wed Nov 11 2026. No macro, syntax, notation, axiom, sorry.
-/
import Derived.Test.YgcfaaChecked
import GoSem.Claim
import GoSem.ClaimJoined
import GoSem.ClaimMapViews
import Derived.JoinedTies
import Derived.KernelRfl
namespace Go.Proofs.Ygcfaa
/- THE CELL 'sum', in the pinned program and in every row, IS THE sha256 OF THE DUMP (.gsa) THAT YgcfaaProg.lean LOADS. Nothing in Lean hashes anything: it is a label: what it is worth is what the hold of that sum in a sandbox is worth. -/
noncomputable def Faag.pinned : Pinned := { name := "ygcfaa", sum := "cfaa9594e59d857adcdc1b6d819f1101fad74e38170987ccc0c375d192192eaf", checked := Faag.checked }
namespace Rows
def none {H : Type} : Left H := { results := [], args := [] }

/-- 'law.OnesRight': WHATEVER THE INPUT: true; the input reads as it did. -/
def onesRightSpec : ChangeSpec := { name := "onesRight", fn := fun _ => fun
  | [d] => { results := [.lit (.bool true)], args := [d] }
  | _ => none }
def onesRightRow : OpenClaim := { program := "ygcfaa", sum := "cfaa9594e59d857adcdc1b6d819f1101fad74e38170987ccc0c375d192192eaf", func := "wordview/law.OnesRight", spec := "onesRight", apart := false }
def OnesRightSaid : Prop := onesRightRow.holds Faag.pinned (OpenSpec.ofChange onesRightSpec)

/-- ITS FALSE NEIGHBOUR: 'it returns false'. Refute it at one input. -/
def onesRightWrong : ChangeSpec := { name := "onesRight", fn := fun _ => fun
  | [d] => { results := [.lit (.bool false)], args := [d] }
  | _ => none }
def OnesRightWrongFalsely : Prop := onesRightRow.holds Faag.pinned (OpenSpec.ofChange onesRightWrong)

/-- 'law.UTF8Right': WHATEVER THE INPUT: true; the input reads as it did. -/
def uTF8RightSpec : ChangeSpec := { name := "uTF8Right", fn := fun _ => fun
  | [d] => { results := [.lit (.bool true)], args := [d] }
  | _ => none }
def uTF8RightRow : OpenClaim := { program := "ygcfaa", sum := "cfaa9594e59d857adcdc1b6d819f1101fad74e38170987ccc0c375d192192eaf", func := "wordview/law.UTF8Right", spec := "uTF8Right", apart := false }
def UTF8RightSaid : Prop := uTF8RightRow.holds Faag.pinned (OpenSpec.ofChange uTF8RightSpec)

/-- ITS FALSE NEIGHBOUR: 'it returns false'. Refute it at one input. -/
def uTF8RightWrong : ChangeSpec := { name := "uTF8Right", fn := fun _ => fun
  | [d] => { results := [.lit (.bool false)], args := [d] }
  | _ => none }
def UTF8RightWrongFalsely : Prop := uTF8RightRow.holds Faag.pinned (OpenSpec.ofChange uTF8RightWrong)

/-- 'law.BitsBack': WHATEVER THE INPUT: true; the input reads as it did. -/
def bitsBackSpec : ChangeSpec := { name := "bitsBack", fn := fun _ => fun
  | [d1, d2, d3, d4] => { results := [.lit (.bool true)], args := [d1, d2, d3, d4] }
  | _ => none }
def bitsBackRow : OpenClaim := { program := "ygcfaa", sum := "cfaa9594e59d857adcdc1b6d819f1101fad74e38170987ccc0c375d192192eaf", func := "wordview/law.BitsBack", spec := "bitsBack", apart := false }
def BitsBackSaid : Prop := bitsBackRow.holds Faag.pinned (OpenSpec.ofChange bitsBackSpec)

/-- ITS FALSE NEIGHBOUR: 'it returns false'. Refute it at one input. -/
def bitsBackWrong : ChangeSpec := { name := "bitsBack", fn := fun _ => fun
  | [d1, d2, d3, d4] => { results := [.lit (.bool false)], args := [d1, d2, d3, d4] }
  | _ => none }
def BitsBackWrongFalsely : Prop := bitsBackRow.holds Faag.pinned (OpenSpec.ofChange bitsBackWrong)

/-- 'law.ClaimRight': WHATEVER THE INPUT: true; the input reads as it did. -/
def claimRightSpec : ChangeSpec := { name := "claimRight", fn := fun _ => fun
  | [d1, d2, d3] => { results := [.lit (.bool true)], args := [d1, d2, d3] }
  | _ => none }
def claimRightRow : OpenClaim := { program := "ygcfaa", sum := "cfaa9594e59d857adcdc1b6d819f1101fad74e38170987ccc0c375d192192eaf", func := "wordview/law.ClaimRight", spec := "claimRight", apart := false }
def ClaimRightSaid : Prop := claimRightRow.holds Faag.pinned (OpenSpec.ofChange claimRightSpec)

/-- ITS FALSE NEIGHBOUR: 'it returns false'. Refute it at one input. -/
def claimRightWrong : ChangeSpec := { name := "claimRight", fn := fun _ => fun
  | [d1, d2, d3] => { results := [.lit (.bool false)], args := [d1, d2, d3] }
  | _ => none }
def ClaimRightWrongFalsely : Prop := claimRightRow.holds Faag.pinned (OpenSpec.ofChange claimRightWrong)

/-- 'law.BuildRefines': WHATEVER THE INPUT: true; the input reads as it did. -/
def buildRefinesSpec : ChangeSpec := { name := "buildRefines", fn := fun _ => fun
  | [d] => { results := [.lit (.bool true)], args := [d] }
  | _ => none }
def buildRefinesRow : OpenClaim := { program := "ygcfaa", sum := "cfaa9594e59d857adcdc1b6d819f1101fad74e38170987ccc0c375d192192eaf", func := "wordview/law.BuildRefines", spec := "buildRefines", apart := false }
def BuildRefinesSaid : Prop := buildRefinesRow.holds Faag.pinned (OpenSpec.ofChange buildRefinesSpec)

/-- ITS FALSE NEIGHBOUR: 'it returns false'. Refute it at one input. -/
def buildRefinesWrong : ChangeSpec := { name := "buildRefines", fn := fun _ => fun
  | [d] => { results := [.lit (.bool false)], args := [d] }
  | _ => none }
def BuildRefinesWrongFalsely : Prop := buildRefinesRow.holds Faag.pinned (OpenSpec.ofChange buildRefinesWrong)

/-- 'law.BuildTakes': WHATEVER THE INPUT: true; the input reads as it did. -/
def buildTakesSpec : ChangeSpec := { name := "buildTakes", fn := fun _ => fun
  | [d] => { results := [.lit (.bool true)], args := [d] }
  | _ => none }
def buildTakesRow : OpenClaim := { program := "ygcfaa", sum := "cfaa9594e59d857adcdc1b6d819f1101fad74e38170987ccc0c375d192192eaf", func := "wordview/law.BuildTakes", spec := "buildTakes", apart := false }
def BuildTakesSaid : Prop := buildTakesRow.holds Faag.pinned (OpenSpec.ofChange buildTakesSpec)

/-- ITS FALSE NEIGHBOUR: 'it returns false'. Refute it at one input. -/
def buildTakesWrong : ChangeSpec := { name := "buildTakes", fn := fun _ => fun
  | [d] => { results := [.lit (.bool false)], args := [d] }
  | _ => none }
def BuildTakesWrongFalsely : Prop := buildTakesRow.holds Faag.pinned (OpenSpec.ofChange buildTakesWrong)

/-- 'law.BuildOnlyGrows': WHATEVER THE INPUT: true; the input reads as it did. -/
def buildOnlyGrowsSpec : ChangeSpec := { name := "buildOnlyGrows", fn := fun _ => fun
  | [d] => { results := [.lit (.bool true)], args := [d] }
  | _ => none }
def buildOnlyGrowsRow : OpenClaim := { program := "ygcfaa", sum := "cfaa9594e59d857adcdc1b6d819f1101fad74e38170987ccc0c375d192192eaf", func := "wordview/law.BuildOnlyGrows", spec := "buildOnlyGrows", apart := false }
def BuildOnlyGrowsSaid : Prop := buildOnlyGrowsRow.holds Faag.pinned (OpenSpec.ofChange buildOnlyGrowsSpec)

/-- ITS FALSE NEIGHBOUR: 'it returns false'. Refute it at one input. -/
def buildOnlyGrowsWrong : ChangeSpec := { name := "buildOnlyGrows", fn := fun _ => fun
  | [d] => { results := [.lit (.bool false)], args := [d] }
  | _ => none }
def BuildOnlyGrowsWrongFalsely : Prop := buildOnlyGrowsRow.holds Faag.pinned (OpenSpec.ofChange buildOnlyGrowsWrong)

/-- 'law.BuildCheckMeans': WHATEVER THE INPUT: true; the input reads as it did. -/
def buildCheckMeansSpec : ChangeSpec := { name := "buildCheckMeans", fn := fun _ => fun
  | [d] => { results := [.lit (.bool true)], args := [d] }
  | _ => none }
def buildCheckMeansRow : OpenClaim := { program := "ygcfaa", sum := "cfaa9594e59d857adcdc1b6d819f1101fad74e38170987ccc0c375d192192eaf", func := "wordview/law.BuildCheckMeans", spec := "buildCheckMeans", apart := false }
def BuildCheckMeansSaid : Prop := buildCheckMeansRow.holds Faag.pinned (OpenSpec.ofChange buildCheckMeansSpec)

/-- ITS FALSE NEIGHBOUR: 'it returns false'. Refute it at one input. -/
def buildCheckMeansWrong : ChangeSpec := { name := "buildCheckMeans", fn := fun _ => fun
  | [d] => { results := [.lit (.bool false)], args := [d] }
  | _ => none }
def BuildCheckMeansWrongFalsely : Prop := buildCheckMeansRow.holds Faag.pinned (OpenSpec.ofChange buildCheckMeansWrong)

/-- 'law.DecodeIff': WHATEVER THE INPUT: true; the input reads as it did. -/
def decodeIffSpec : ChangeSpec := { name := "decodeIff", fn := fun _ => fun
  | [d] => { results := [.lit (.bool true)], args := [d] }
  | _ => none }
def decodeIffRow : OpenClaim := { program := "ygcfaa", sum := "cfaa9594e59d857adcdc1b6d819f1101fad74e38170987ccc0c375d192192eaf", func := "wordview/law.DecodeIff", spec := "decodeIff", apart := false }
def DecodeIffSaid : Prop := decodeIffRow.holds Faag.pinned (OpenSpec.ofChange decodeIffSpec)

/-- ITS FALSE NEIGHBOUR: 'it returns false'. Refute it at one input. -/
def decodeIffWrong : ChangeSpec := { name := "decodeIff", fn := fun _ => fun
  | [d] => { results := [.lit (.bool false)], args := [d] }
  | _ => none }
def DecodeIffWrongFalsely : Prop := decodeIffRow.holds Faag.pinned (OpenSpec.ofChange decodeIffWrong)

/-- 'law.CanonBack': WHATEVER THE INPUT: true; the input reads as it did. -/
def canonBackSpec : ChangeSpec := { name := "canonBack", fn := fun _ => fun
  | [d] => { results := [.lit (.bool true)], args := [d] }
  | _ => none }
def canonBackRow : OpenClaim := { program := "ygcfaa", sum := "cfaa9594e59d857adcdc1b6d819f1101fad74e38170987ccc0c375d192192eaf", func := "wordview/law.CanonBack", spec := "canonBack", apart := false }
def CanonBackSaid : Prop := canonBackRow.holds Faag.pinned (OpenSpec.ofChange canonBackSpec)

/-- ITS FALSE NEIGHBOUR: 'it returns false'. Refute it at one input. -/
def canonBackWrong : ChangeSpec := { name := "canonBack", fn := fun _ => fun
  | [d] => { results := [.lit (.bool false)], args := [d] }
  | _ => none }
def CanonBackWrongFalsely : Prop := canonBackRow.holds Faag.pinned (OpenSpec.ofChange canonBackWrong)

/-- 'law.CanonOne': WHATEVER THE INPUT: true; the input reads as it did. -/
def canonOneSpec : ChangeSpec := { name := "canonOne", fn := fun _ => fun
  | [d1, d2] => { results := [.lit (.bool true)], args := [d1, d2] }
  | _ => none }
def canonOneRow : OpenClaim := { program := "ygcfaa", sum := "cfaa9594e59d857adcdc1b6d819f1101fad74e38170987ccc0c375d192192eaf", func := "wordview/law.CanonOne", spec := "canonOne", apart := false }
def CanonOneSaid : Prop := canonOneRow.holds Faag.pinned (OpenSpec.ofChange canonOneSpec)

/-- ITS FALSE NEIGHBOUR: 'it returns false'. Refute it at one input. -/
def canonOneWrong : ChangeSpec := { name := "canonOne", fn := fun _ => fun
  | [d1, d2] => { results := [.lit (.bool false)], args := [d1, d2] }
  | _ => none }
def CanonOneWrongFalsely : Prop := canonOneRow.holds Faag.pinned (OpenSpec.ofChange canonOneWrong)

end Rows
end Go.Proofs.Ygcfaa
