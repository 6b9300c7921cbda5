/-
  No cell of these rows narrows 'for every input' (looked for: loops, veiled, ifaces, maps, wideKeys, modest, calm, conditions, laid).
  DERIVED. THE GIVEN ROWS OF THIS SEAT. 6 by the template 'for every input the law returns true; each argument reads behind the call as it read before'; 0 by the template 'total and deterministic' (their statements: YtgajpekolamjbaaTotals.lean).
  GIVEN WITH THE SEED: the statements are not yours to turn. If you find one false, say at which input.
  Laid BY PROGRAM, IN A SANDBOX (cutbox-rows.mjs): the forced cells as the released guide's own fill.sh prints them over the translation 00da77458aee717e… (all of the seat's roots in one cut). By AI agents, Wed Nov 11 2026. No macro, syntax, notation, axiom, sorry.
-/
import Derived.Test.YtgajpekolamjbaaChecked
import GoSem.Claim
import GoSem.ClaimJoined
import GoSem.ClaimMapViews
import Derived.JoinedTies
import Derived.KernelRfl
namespace Go.Proofs.Ytgajpekolamjbaa
/- THE CELL 'sum', in the pinned program and in every row, IS THE sha256 OF THE DUMP (.gsa) THAT YtgajpekolamjbaaProg.lean LOADS. Nothing in Lean hashes anything: it is a label: what it is worth is what the hold of that sum in a sandbox is worth. -/
noncomputable def Try.pinned : Pinned := { name := "ytgajpekolamjbaa", sum := "00da77458aee717e2c34a786272ee2dbeae1344967048e4c2178fe2764cd9a94", checked := Try.checked }
namespace Rows
def none {H : Type} : Left H := { results := [], args := [] }

/-- 'tesseralaw18.TreeBuilds': WHATEVER THE INPUT: true; the input reads as it did. -/
def treeBuildsSpec : ChangeSpec := { name := "treeBuilds", fn := fun _ => fun
  | [d1, d2] => { results := [.lit (.bool true)], args := [d1, d2] }
  | _ => none }
def treeBuildsRow : OpenClaim := { program := "ytgajpekolamjbaa", sum := "00da77458aee717e2c34a786272ee2dbeae1344967048e4c2178fe2764cd9a94", func := "tessera/tesseralaw18.TreeBuilds", spec := "treeBuilds", unfollowed := true, recurses := true, apart := false }
def TreeBuildsSaid : Prop := treeBuildsRow.holds Try.pinned (OpenSpec.ofChange treeBuildsSpec)

/-- ITS FALSE NEIGHBOUR: 'it returns false'. Refute it at one input. -/
def treeBuildsWrong : ChangeSpec := { name := "treeBuilds", fn := fun _ => fun
  | [d1, d2] => { results := [.lit (.bool false)], args := [d1, d2] }
  | _ => none }
def TreeBuildsWrongFalsely : Prop := treeBuildsRow.holds Try.pinned (OpenSpec.ofChange treeBuildsWrong)

/-- 'tesseralaw18.TreeAnswers': WHATEVER THE INPUT: true; the input reads as it did. -/
def treeAnswersSpec : ChangeSpec := { name := "treeAnswers", fn := fun _ => fun
  | [d1, d2, d3, d4] => { results := [.lit (.bool true)], args := [d1, d2, d3, d4] }
  | _ => none }
def treeAnswersRow : OpenClaim := { program := "ytgajpekolamjbaa", sum := "00da77458aee717e2c34a786272ee2dbeae1344967048e4c2178fe2764cd9a94", func := "tessera/tesseralaw18.TreeAnswers", spec := "treeAnswers", unfollowed := true, recurses := true, apart := false }
def TreeAnswersSaid : Prop := treeAnswersRow.holds Try.pinned (OpenSpec.ofChange treeAnswersSpec)

/-- ITS FALSE NEIGHBOUR: 'it returns false'. Refute it at one input. -/
def treeAnswersWrong : ChangeSpec := { name := "treeAnswers", fn := fun _ => fun
  | [d1, d2, d3, d4] => { results := [.lit (.bool false)], args := [d1, d2, d3, d4] }
  | _ => none }
def TreeAnswersWrongFalsely : Prop := treeAnswersRow.holds Try.pinned (OpenSpec.ofChange treeAnswersWrong)

/-- 'tesseralaw18.TreeInverse': WHATEVER THE INPUT: true; the input reads as it did. -/
def treeInverseSpec : ChangeSpec := { name := "treeInverse", fn := fun _ => fun
  | [d1, d2, d3] => { results := [.lit (.bool true)], args := [d1, d2, d3] }
  | _ => none }
def treeInverseRow : OpenClaim := { program := "ytgajpekolamjbaa", sum := "00da77458aee717e2c34a786272ee2dbeae1344967048e4c2178fe2764cd9a94", func := "tessera/tesseralaw18.TreeInverse", spec := "treeInverse", unfollowed := true, recurses := true, apart := false }
def TreeInverseSaid : Prop := treeInverseRow.holds Try.pinned (OpenSpec.ofChange treeInverseSpec)

/-- ITS FALSE NEIGHBOUR: 'it returns false'. Refute it at one input. -/
def treeInverseWrong : ChangeSpec := { name := "treeInverse", fn := fun _ => fun
  | [d1, d2, d3] => { results := [.lit (.bool false)], args := [d1, d2, d3] }
  | _ => none }
def TreeInverseWrongFalsely : Prop := treeInverseRow.holds Try.pinned (OpenSpec.ofChange treeInverseWrong)

/-- 'tesseralaw18.TreeOne': WHATEVER THE INPUT: true; the input reads as it did. -/
def treeOneSpec : ChangeSpec := { name := "treeOne", fn := fun _ => fun
  | [d1, d2, d3] => { results := [.lit (.bool true)], args := [d1, d2, d3] }
  | _ => none }
def treeOneRow : OpenClaim := { program := "ytgajpekolamjbaa", sum := "00da77458aee717e2c34a786272ee2dbeae1344967048e4c2178fe2764cd9a94", func := "tessera/tesseralaw18.TreeOne", spec := "treeOne", unfollowed := true, recurses := true, apart := false }
def TreeOneSaid : Prop := treeOneRow.holds Try.pinned (OpenSpec.ofChange treeOneSpec)

/-- ITS FALSE NEIGHBOUR: 'it returns false'. Refute it at one input. -/
def treeOneWrong : ChangeSpec := { name := "treeOne", fn := fun _ => fun
  | [d1, d2, d3] => { results := [.lit (.bool false)], args := [d1, d2, d3] }
  | _ => none }
def TreeOneWrongFalsely : Prop := treeOneRow.holds Try.pinned (OpenSpec.ofChange treeOneWrong)

/-- 'tesseralaw18.TreeShapes': WHATEVER THE INPUT: true; the input reads as it did. -/
def treeShapesSpec : ChangeSpec := { name := "treeShapes", fn := fun _ => fun
  | [d1, d2] => { results := [.lit (.bool true)], args := [d1, d2] }
  | _ => none }
def treeShapesRow : OpenClaim := { program := "ytgajpekolamjbaa", sum := "00da77458aee717e2c34a786272ee2dbeae1344967048e4c2178fe2764cd9a94", func := "tessera/tesseralaw18.TreeShapes", spec := "treeShapes", unfollowed := true, recurses := true, apart := false }
def TreeShapesSaid : Prop := treeShapesRow.holds Try.pinned (OpenSpec.ofChange treeShapesSpec)

/-- ITS FALSE NEIGHBOUR: 'it returns false'. Refute it at one input. -/
def treeShapesWrong : ChangeSpec := { name := "treeShapes", fn := fun _ => fun
  | [d1, d2] => { results := [.lit (.bool false)], args := [d1, d2] }
  | _ => none }
def TreeShapesWrongFalsely : Prop := treeShapesRow.holds Try.pinned (OpenSpec.ofChange treeShapesWrong)

/-- 'tesseralaw18.TreeWild': WHATEVER THE INPUT: true; the input reads as it did. -/
def treeWildSpec : ChangeSpec := { name := "treeWild", fn := fun _ => fun
  | [d1, d2, d3] => { results := [.lit (.bool true)], args := [d1, d2, d3] }
  | _ => none }
def treeWildRow : OpenClaim := { program := "ytgajpekolamjbaa", sum := "00da77458aee717e2c34a786272ee2dbeae1344967048e4c2178fe2764cd9a94", func := "tessera/tesseralaw18.TreeWild", spec := "treeWild", unfollowed := true, recurses := true, apart := false }
def TreeWildSaid : Prop := treeWildRow.holds Try.pinned (OpenSpec.ofChange treeWildSpec)

/-- ITS FALSE NEIGHBOUR: 'it returns false'. Refute it at one input. -/
def treeWildWrong : ChangeSpec := { name := "treeWild", fn := fun _ => fun
  | [d1, d2, d3] => { results := [.lit (.bool false)], args := [d1, d2, d3] }
  | _ => none }
def TreeWildWrongFalsely : Prop := treeWildRow.holds Try.pinned (OpenSpec.ofChange treeWildWrong)

/- THE SECOND FORM. 'bulk': how many values and letters a reading holds, each counted each time it is reached (what is shared counts as often as it is met; a slice's spare places count too). A statement '..UptoSaid' is the law's where the arguments, and the package variables that the reading takes, are together of bulk at most 1048576: NARROWER than '..Said'. Prove '..Said' where nothing that the law and all that it calls make is longer than what came in: it says more and counts as full. Else prove '..UptoSaid'. A law counts once. -/
mutual
def uptoBulk {H : Type} : DataW H → Nat
  | .lit (.string bytes) => bytes.length + 1
  | .lit _ => 1
  | .nil => 1
  | .ptr d => uptoBulk d + 1
  | .slice elems spare => uptoBulkAll elems + uptoBulkAll spare + 1
  | .agg parts => uptoBulkAll parts + 1
  | .iface _ d => uptoBulk d + 1
  | .map entries => uptoBulkEntries entries + 1
  | .held _ => 1
def uptoBulkAll {H : Type} : List (DataW H) → Nat
  | [] => 0
  | d :: r => uptoBulk d + uptoBulkAll r
def uptoBulkEntries {H : Type} : List (Lit × DataW H) → Nat
  | [] => 0
  | x :: r => uptoBulkEntry x + uptoBulkEntries r
def uptoBulkEntry {H : Type} : Lit × DataW H → Nat
  | (.string bytes, d) => bytes.length + uptoBulk d + 1
  | (_, d) => uptoBulk d + 1
 end
def uptoSmall : (H : Type) → List (DataW H) → Bool := fun _ ds => decide (uptoBulkAll ds ≤ 1048576)
def OpenSpec.upto (s : _root_.Go.ChangeSpec) : _root_.Go.OpenSpec := { _root_.Go.OpenSpec.ofChange s with cond := some uptoSmall }

/-- 'tesseralaw18.TreeBuilds', WHERE WHAT IT READS IS OF BULK AT MOST 1048576: true; the input reads as it did. -/
def treeBuildsUptoRow : OpenClaim := { program := "ytgajpekolamjbaa", sum := "00da77458aee717e2c34a786272ee2dbeae1344967048e4c2178fe2764cd9a94", func := "tessera/tesseralaw18.TreeBuilds", spec := "treeBuilds", unfollowed := true, recurses := true, apart := false, narrowed := true }
def TreeBuildsUptoSaid : Prop := treeBuildsUptoRow.holds Try.pinned (OpenSpec.upto treeBuildsSpec)

/-- 'tesseralaw18.TreeAnswers', WHERE WHAT IT READS IS OF BULK AT MOST 1048576: true; the input reads as it did. -/
def treeAnswersUptoRow : OpenClaim := { program := "ytgajpekolamjbaa", sum := "00da77458aee717e2c34a786272ee2dbeae1344967048e4c2178fe2764cd9a94", func := "tessera/tesseralaw18.TreeAnswers", spec := "treeAnswers", unfollowed := true, recurses := true, apart := false, narrowed := true }
def TreeAnswersUptoSaid : Prop := treeAnswersUptoRow.holds Try.pinned (OpenSpec.upto treeAnswersSpec)

/-- 'tesseralaw18.TreeInverse', WHERE WHAT IT READS IS OF BULK AT MOST 1048576: true; the input reads as it did. -/
def treeInverseUptoRow : OpenClaim := { program := "ytgajpekolamjbaa", sum := "00da77458aee717e2c34a786272ee2dbeae1344967048e4c2178fe2764cd9a94", func := "tessera/tesseralaw18.TreeInverse", spec := "treeInverse", unfollowed := true, recurses := true, apart := false, narrowed := true }
def TreeInverseUptoSaid : Prop := treeInverseUptoRow.holds Try.pinned (OpenSpec.upto treeInverseSpec)

/-- 'tesseralaw18.TreeOne', WHERE WHAT IT READS IS OF BULK AT MOST 1048576: true; the input reads as it did. -/
def treeOneUptoRow : OpenClaim := { program := "ytgajpekolamjbaa", sum := "00da77458aee717e2c34a786272ee2dbeae1344967048e4c2178fe2764cd9a94", func := "tessera/tesseralaw18.TreeOne", spec := "treeOne", unfollowed := true, recurses := true, apart := false, narrowed := true }
def TreeOneUptoSaid : Prop := treeOneUptoRow.holds Try.pinned (OpenSpec.upto treeOneSpec)

/-- 'tesseralaw18.TreeShapes', WHERE WHAT IT READS IS OF BULK AT MOST 1048576: true; the input reads as it did. -/
def treeShapesUptoRow : OpenClaim := { program := "ytgajpekolamjbaa", sum := "00da77458aee717e2c34a786272ee2dbeae1344967048e4c2178fe2764cd9a94", func := "tessera/tesseralaw18.TreeShapes", spec := "treeShapes", unfollowed := true, recurses := true, apart := false, narrowed := true }
def TreeShapesUptoSaid : Prop := treeShapesUptoRow.holds Try.pinned (OpenSpec.upto treeShapesSpec)

/-- 'tesseralaw18.TreeWild', WHERE WHAT IT READS IS OF BULK AT MOST 1048576: true; the input reads as it did. -/
def treeWildUptoRow : OpenClaim := { program := "ytgajpekolamjbaa", sum := "00da77458aee717e2c34a786272ee2dbeae1344967048e4c2178fe2764cd9a94", func := "tessera/tesseralaw18.TreeWild", spec := "treeWild", unfollowed := true, recurses := true, apart := false, narrowed := true }
def TreeWildUptoSaid : Prop := treeWildUptoRow.holds Try.pinned (OpenSpec.upto treeWildSpec)

end Rows
end Go.Proofs.Ytgajpekolamjbaa
