/-
  No cell of these rows narrows 'for every input' (looked for: loops, veiled, ifaces, maps, wideKeys, modest, calm, conditions, laid).
  DERIVED. THE GIVEN ROWS OF THIS SEAT. 8 by the template 'for every input the law returns true; each argument reads behind the call as it read before'; 0 by the template 'total and deterministic' (their statements: YtpphjiialgmidaaTotals.lean).
  GIVEN WITH THE SEED: the statements are not yours to turn. If you find one false, say at which input.
  Laid BY PROGRAM, IN A SANDBOX (cutbox-rows.mjs): the forced cells as the released guide's own fill.sh prints them over the translation 45d999ca2cf9dab6… (all of the seat's roots in one cut). By AI agents, Wed Nov 11 2026. No macro, syntax, notation, axiom, sorry.
-/
import Derived.Test.YtpphjiialgmidaaChecked
import GoSem.Claim
import GoSem.ClaimJoined
import GoSem.ClaimMapViews
import Derived.JoinedTies
import Derived.KernelRfl
namespace Go.Proofs.Ytpphjiialgmidaa
/- THE CELL 'sum', in the pinned program and in every row, IS THE sha256 OF THE DUMP (.gsa) THAT YtpphjiialgmidaaProg.lean LOADS. Nothing in Lean hashes anything: it is a label: what it is worth is what the hold of that sum in a sandbox is worth. -/
noncomputable def Try.pinned : Pinned := { name := "ytpphjiialgmidaa", sum := "45d999ca2cf9dab651f5d7d86aa5e810fb3ee0fb31c11c69f34cc9875ff85b6e", checked := Try.checked }
namespace Rows
def none {H : Type} : Left H := { results := [], args := [] }

/-- 'tesseralaw02.RankSizes': WHATEVER THE INPUT: true; the input reads as it did. -/
def rankSizesSpec : ChangeSpec := { name := "rankSizes", fn := fun _ => fun
  | [d1, d2] => { results := [.lit (.bool true)], args := [d1, d2] }
  | _ => none }
def rankSizesRow : OpenClaim := { program := "ytpphjiialgmidaa", sum := "45d999ca2cf9dab651f5d7d86aa5e810fb3ee0fb31c11c69f34cc9875ff85b6e", func := "tessera/tesseralaw02.RankSizes", spec := "rankSizes", apart := false }
def RankSizesSaid : Prop := rankSizesRow.holds Try.pinned (OpenSpec.ofChange rankSizesSpec)

/-- ITS FALSE NEIGHBOUR: 'it returns false'. Refute it at one input. -/
def rankSizesWrong : ChangeSpec := { name := "rankSizes", fn := fun _ => fun
  | [d1, d2] => { results := [.lit (.bool false)], args := [d1, d2] }
  | _ => none }
def RankSizesWrongFalsely : Prop := rankSizesRow.holds Try.pinned (OpenSpec.ofChange rankSizesWrong)

/-- 'tesseralaw02.RankBuilds': WHATEVER THE INPUT: true; the input reads as it did. -/
def rankBuildsSpec : ChangeSpec := { name := "rankBuilds", fn := fun _ => fun
  | [d1, d2] => { results := [.lit (.bool true)], args := [d1, d2] }
  | _ => none }
def rankBuildsRow : OpenClaim := { program := "ytpphjiialgmidaa", sum := "45d999ca2cf9dab651f5d7d86aa5e810fb3ee0fb31c11c69f34cc9875ff85b6e", func := "tessera/tesseralaw02.RankBuilds", spec := "rankBuilds", unfollowed := true, recurses := true, apart := false }
def RankBuildsSaid : Prop := rankBuildsRow.holds Try.pinned (OpenSpec.ofChange rankBuildsSpec)

/-- ITS FALSE NEIGHBOUR: 'it returns false'. Refute it at one input. -/
def rankBuildsWrong : ChangeSpec := { name := "rankBuilds", fn := fun _ => fun
  | [d1, d2] => { results := [.lit (.bool false)], args := [d1, d2] }
  | _ => none }
def RankBuildsWrongFalsely : Prop := rankBuildsRow.holds Try.pinned (OpenSpec.ofChange rankBuildsWrong)

/-- 'tesseralaw02.RankAnswers': WHATEVER THE INPUT: true; the input reads as it did. -/
def rankAnswersSpec : ChangeSpec := { name := "rankAnswers", fn := fun _ => fun
  | [d1, d2, d3, d4] => { results := [.lit (.bool true)], args := [d1, d2, d3, d4] }
  | _ => none }
def rankAnswersRow : OpenClaim := { program := "ytpphjiialgmidaa", sum := "45d999ca2cf9dab651f5d7d86aa5e810fb3ee0fb31c11c69f34cc9875ff85b6e", func := "tessera/tesseralaw02.RankAnswers", spec := "rankAnswers", unfollowed := true, recurses := true, apart := false }
def RankAnswersSaid : Prop := rankAnswersRow.holds Try.pinned (OpenSpec.ofChange rankAnswersSpec)

/-- ITS FALSE NEIGHBOUR: 'it returns false'. Refute it at one input. -/
def rankAnswersWrong : ChangeSpec := { name := "rankAnswers", fn := fun _ => fun
  | [d1, d2, d3, d4] => { results := [.lit (.bool false)], args := [d1, d2, d3, d4] }
  | _ => none }
def RankAnswersWrongFalsely : Prop := rankAnswersRow.holds Try.pinned (OpenSpec.ofChange rankAnswersWrong)

/-- 'tesseralaw02.RankInverse': WHATEVER THE INPUT: true; the input reads as it did. -/
def rankInverseSpec : ChangeSpec := { name := "rankInverse", fn := fun _ => fun
  | [d] => { results := [.lit (.bool true)], args := [d] }
  | _ => none }
def rankInverseRow : OpenClaim := { program := "ytpphjiialgmidaa", sum := "45d999ca2cf9dab651f5d7d86aa5e810fb3ee0fb31c11c69f34cc9875ff85b6e", func := "tessera/tesseralaw02.RankInverse", spec := "rankInverse", unfollowed := true, recurses := true, apart := false }
def RankInverseSaid : Prop := rankInverseRow.holds Try.pinned (OpenSpec.ofChange rankInverseSpec)

/-- ITS FALSE NEIGHBOUR: 'it returns false'. Refute it at one input. -/
def rankInverseWrong : ChangeSpec := { name := "rankInverse", fn := fun _ => fun
  | [d] => { results := [.lit (.bool false)], args := [d] }
  | _ => none }
def RankInverseWrongFalsely : Prop := rankInverseRow.holds Try.pinned (OpenSpec.ofChange rankInverseWrong)

/-- 'tesseralaw02.RankJoins': WHATEVER THE INPUT: true; the input reads as it did. -/
def rankJoinsSpec : ChangeSpec := { name := "rankJoins", fn := fun _ => fun
  | [d1, d2, d3] => { results := [.lit (.bool true)], args := [d1, d2, d3] }
  | _ => none }
def rankJoinsRow : OpenClaim := { program := "ytpphjiialgmidaa", sum := "45d999ca2cf9dab651f5d7d86aa5e810fb3ee0fb31c11c69f34cc9875ff85b6e", func := "tessera/tesseralaw02.RankJoins", spec := "rankJoins", unfollowed := true, recurses := true, apart := false }
def RankJoinsSaid : Prop := rankJoinsRow.holds Try.pinned (OpenSpec.ofChange rankJoinsSpec)

/-- ITS FALSE NEIGHBOUR: 'it returns false'. Refute it at one input. -/
def rankJoinsWrong : ChangeSpec := { name := "rankJoins", fn := fun _ => fun
  | [d1, d2, d3] => { results := [.lit (.bool false)], args := [d1, d2, d3] }
  | _ => none }
def RankJoinsWrongFalsely : Prop := rankJoinsRow.holds Try.pinned (OpenSpec.ofChange rankJoinsWrong)

/-- 'tesseralaw02.RankTold': WHATEVER THE INPUT: true; the input reads as it did. -/
def rankToldSpec : ChangeSpec := { name := "rankTold", fn := fun _ => fun
  | [d1, d2, d3, d4] => { results := [.lit (.bool true)], args := [d1, d2, d3, d4] }
  | _ => none }
def rankToldRow : OpenClaim := { program := "ytpphjiialgmidaa", sum := "45d999ca2cf9dab651f5d7d86aa5e810fb3ee0fb31c11c69f34cc9875ff85b6e", func := "tessera/tesseralaw02.RankTold", spec := "rankTold", unfollowed := true, recurses := true, apart := false }
def RankToldSaid : Prop := rankToldRow.holds Try.pinned (OpenSpec.ofChange rankToldSpec)

/-- ITS FALSE NEIGHBOUR: 'it returns false'. Refute it at one input. -/
def rankToldWrong : ChangeSpec := { name := "rankTold", fn := fun _ => fun
  | [d1, d2, d3, d4] => { results := [.lit (.bool false)], args := [d1, d2, d3, d4] }
  | _ => none }
def RankToldWrongFalsely : Prop := rankToldRow.holds Try.pinned (OpenSpec.ofChange rankToldWrong)

/-- 'tesseralaw02.RankWalks': WHATEVER THE INPUT: true; the input reads as it did. -/
def rankWalksSpec : ChangeSpec := { name := "rankWalks", fn := fun _ => fun
  | [d1, d2, d3] => { results := [.lit (.bool true)], args := [d1, d2, d3] }
  | _ => none }
def rankWalksRow : OpenClaim := { program := "ytpphjiialgmidaa", sum := "45d999ca2cf9dab651f5d7d86aa5e810fb3ee0fb31c11c69f34cc9875ff85b6e", func := "tessera/tesseralaw02.RankWalks", spec := "rankWalks", unfollowed := true, recurses := true, apart := false }
def RankWalksSaid : Prop := rankWalksRow.holds Try.pinned (OpenSpec.ofChange rankWalksSpec)

/-- ITS FALSE NEIGHBOUR: 'it returns false'. Refute it at one input. -/
def rankWalksWrong : ChangeSpec := { name := "rankWalks", fn := fun _ => fun
  | [d1, d2, d3] => { results := [.lit (.bool false)], args := [d1, d2, d3] }
  | _ => none }
def RankWalksWrongFalsely : Prop := rankWalksRow.holds Try.pinned (OpenSpec.ofChange rankWalksWrong)

/-- 'tesseralaw02.RankWild': WHATEVER THE INPUT: true; the input reads as it did. -/
def rankWildSpec : ChangeSpec := { name := "rankWild", fn := fun _ => fun
  | [d1, d2] => { results := [.lit (.bool true)], args := [d1, d2] }
  | _ => none }
def rankWildRow : OpenClaim := { program := "ytpphjiialgmidaa", sum := "45d999ca2cf9dab651f5d7d86aa5e810fb3ee0fb31c11c69f34cc9875ff85b6e", func := "tessera/tesseralaw02.RankWild", spec := "rankWild", unfollowed := true, recurses := true, apart := false }
def RankWildSaid : Prop := rankWildRow.holds Try.pinned (OpenSpec.ofChange rankWildSpec)

/-- ITS FALSE NEIGHBOUR: 'it returns false'. Refute it at one input. -/
def rankWildWrong : ChangeSpec := { name := "rankWild", fn := fun _ => fun
  | [d1, d2] => { results := [.lit (.bool false)], args := [d1, d2] }
  | _ => none }
def RankWildWrongFalsely : Prop := rankWildRow.holds Try.pinned (OpenSpec.ofChange rankWildWrong)

/- THE SECOND FORM. 'bulk': how many values and letters a reading holds, each counted each time it is reached (what is shared counts as often as it is met; a slice's spare places count too). A statement '..UptoSaid' is the law's where the arguments, and the package variables that the reading takes, are together of bulk at most 1048576: NARROWER than '..Said'. Prove '..Said' where nothing that the law and all that it calls make is longer than what came in: it says more and counts as full. Else prove '..UptoSaid'. A law counts once. -/
mutual
def uptoBulk {H : Type} : DataW H → Nat
  | .lit (.string bytes) => bytes.length + 1
  | .lit _ => 1
  | .nil => 1
  | .ptr d => uptoBulk d + 1
  | .slice elems spare => uptoBulkAll elems + uptoBulkAll spare + 1
  | .agg parts => uptoBulkAll parts + 1
  | .iface _ d => uptoBulk d + 1
  | .map entries => uptoBulkEntries entries + 1
  | .held _ => 1
def uptoBulkAll {H : Type} : List (DataW H) → Nat
  | [] => 0
  | d :: r => uptoBulk d + uptoBulkAll r
def uptoBulkEntries {H : Type} : List (Lit × DataW H) → Nat
  | [] => 0
  | x :: r => uptoBulkEntry x + uptoBulkEntries r
def uptoBulkEntry {H : Type} : Lit × DataW H → Nat
  | (.string bytes, d) => bytes.length + uptoBulk d + 1
  | (_, d) => uptoBulk d + 1
 end
def uptoSmall : (H : Type) → List (DataW H) → Bool := fun _ ds => decide (uptoBulkAll ds ≤ 1048576)
def OpenSpec.upto (s : _root_.Go.ChangeSpec) : _root_.Go.OpenSpec := { _root_.Go.OpenSpec.ofChange s with cond := some uptoSmall }

/-- 'tesseralaw02.RankSizes', WHERE WHAT IT READS IS OF BULK AT MOST 1048576: true; the input reads as it did. -/
def rankSizesUptoRow : OpenClaim := { program := "ytpphjiialgmidaa", sum := "45d999ca2cf9dab651f5d7d86aa5e810fb3ee0fb31c11c69f34cc9875ff85b6e", func := "tessera/tesseralaw02.RankSizes", spec := "rankSizes", apart := false, narrowed := true }
def RankSizesUptoSaid : Prop := rankSizesUptoRow.holds Try.pinned (OpenSpec.upto rankSizesSpec)

/-- 'tesseralaw02.RankBuilds', WHERE WHAT IT READS IS OF BULK AT MOST 1048576: true; the input reads as it did. -/
def rankBuildsUptoRow : OpenClaim := { program := "ytpphjiialgmidaa", sum := "45d999ca2cf9dab651f5d7d86aa5e810fb3ee0fb31c11c69f34cc9875ff85b6e", func := "tessera/tesseralaw02.RankBuilds", spec := "rankBuilds", unfollowed := true, recurses := true, apart := false, narrowed := true }
def RankBuildsUptoSaid : Prop := rankBuildsUptoRow.holds Try.pinned (OpenSpec.upto rankBuildsSpec)

/-- 'tesseralaw02.RankAnswers', WHERE WHAT IT READS IS OF BULK AT MOST 1048576: true; the input reads as it did. -/
def rankAnswersUptoRow : OpenClaim := { program := "ytpphjiialgmidaa", sum := "45d999ca2cf9dab651f5d7d86aa5e810fb3ee0fb31c11c69f34cc9875ff85b6e", func := "tessera/tesseralaw02.RankAnswers", spec := "rankAnswers", unfollowed := true, recurses := true, apart := false, narrowed := true }
def RankAnswersUptoSaid : Prop := rankAnswersUptoRow.holds Try.pinned (OpenSpec.upto rankAnswersSpec)

/-- 'tesseralaw02.RankInverse', WHERE WHAT IT READS IS OF BULK AT MOST 1048576: true; the input reads as it did. -/
def rankInverseUptoRow : OpenClaim := { program := "ytpphjiialgmidaa", sum := "45d999ca2cf9dab651f5d7d86aa5e810fb3ee0fb31c11c69f34cc9875ff85b6e", func := "tessera/tesseralaw02.RankInverse", spec := "rankInverse", unfollowed := true, recurses := true, apart := false, narrowed := true }
def RankInverseUptoSaid : Prop := rankInverseUptoRow.holds Try.pinned (OpenSpec.upto rankInverseSpec)

/-- 'tesseralaw02.RankJoins', WHERE WHAT IT READS IS OF BULK AT MOST 1048576: true; the input reads as it did. -/
def rankJoinsUptoRow : OpenClaim := { program := "ytpphjiialgmidaa", sum := "45d999ca2cf9dab651f5d7d86aa5e810fb3ee0fb31c11c69f34cc9875ff85b6e", func := "tessera/tesseralaw02.RankJoins", spec := "rankJoins", unfollowed := true, recurses := true, apart := false, narrowed := true }
def RankJoinsUptoSaid : Prop := rankJoinsUptoRow.holds Try.pinned (OpenSpec.upto rankJoinsSpec)

/-- 'tesseralaw02.RankTold', WHERE WHAT IT READS IS OF BULK AT MOST 1048576: true; the input reads as it did. -/
def rankToldUptoRow : OpenClaim := { program := "ytpphjiialgmidaa", sum := "45d999ca2cf9dab651f5d7d86aa5e810fb3ee0fb31c11c69f34cc9875ff85b6e", func := "tessera/tesseralaw02.RankTold", spec := "rankTold", unfollowed := true, recurses := true, apart := false, narrowed := true }
def RankToldUptoSaid : Prop := rankToldUptoRow.holds Try.pinned (OpenSpec.upto rankToldSpec)

/-- 'tesseralaw02.RankWalks', WHERE WHAT IT READS IS OF BULK AT MOST 1048576: true; the input reads as it did. -/
def rankWalksUptoRow : OpenClaim := { program := "ytpphjiialgmidaa", sum := "45d999ca2cf9dab651f5d7d86aa5e810fb3ee0fb31c11c69f34cc9875ff85b6e", func := "tessera/tesseralaw02.RankWalks", spec := "rankWalks", unfollowed := true, recurses := true, apart := false, narrowed := true }
def RankWalksUptoSaid : Prop := rankWalksUptoRow.holds Try.pinned (OpenSpec.upto rankWalksSpec)

/-- 'tesseralaw02.RankWild', WHERE WHAT IT READS IS OF BULK AT MOST 1048576: true; the input reads as it did. -/
def rankWildUptoRow : OpenClaim := { program := "ytpphjiialgmidaa", sum := "45d999ca2cf9dab651f5d7d86aa5e810fb3ee0fb31c11c69f34cc9875ff85b6e", func := "tessera/tesseralaw02.RankWild", spec := "rankWild", unfollowed := true, recurses := true, apart := false, narrowed := true }
def RankWildUptoSaid : Prop := rankWildUptoRow.holds Try.pinned (OpenSpec.upto rankWildSpec)

end Rows
end Go.Proofs.Ytpphjiialgmidaa
