/-
  No cell of these rows narrows 'for every input' (looked for: loops, veiled, ifaces, maps, wideKeys, modest, calm, conditions, laid).
  DERIVED. THE GIVEN ROWS OF THIS SEAT. 7 by the template 'for every input the law returns true; each argument reads behind the call as it read before'; 0 by the template 'total and deterministic' (their statements: YtjgcmnppiaikcaaTotals.lean).
  GIVEN WITH THE SEED: the statements are not yours to turn. If you find one false, say at which input.
  Laid BY PROGRAM, IN A SANDBOX (cutbox-rows.mjs): the forced cells as the released guide's own fill.sh prints them over the translation b85bda9042763f90… (all of the seat's roots in one cut). By AI agents, Wed Nov 11 2026. No macro, syntax, notation, axiom, sorry.
-/
import Derived.Test.YtjgcmnppiaikcaaChecked
import GoSem.Claim
import GoSem.ClaimJoined
import GoSem.ClaimMapViews
import Derived.JoinedTies
import Derived.KernelRfl
namespace Go.Proofs.Ytjgcmnppiaikcaa
/- THE CELL 'sum', in the pinned program and in every row, IS THE sha256 OF THE DUMP (.gsa) THAT YtjgcmnppiaikcaaProg.lean LOADS. Nothing in Lean hashes anything: it is a label: what it is worth is what the hold of that sum in a sandbox is worth. -/
noncomputable def Try.pinned : Pinned := { name := "ytjgcmnppiaikcaa", sum := "b85bda9042763f909d8c366a1e390b9d0b63d0b78476d349c44f8b255072672a", checked := Try.checked }
namespace Rows
def none {H : Type} : Left H := { results := [], args := [] }

/-- 'tesseralaw16.DictBuilds': WHATEVER THE INPUT: true; the input reads as it did. -/
def dictBuildsSpec : ChangeSpec := { name := "dictBuilds", fn := fun _ => fun
  | [d1, d2] => { results := [.lit (.bool true)], args := [d1, d2] }
  | _ => none }
def dictBuildsRow : OpenClaim := { program := "ytjgcmnppiaikcaa", sum := "b85bda9042763f909d8c366a1e390b9d0b63d0b78476d349c44f8b255072672a", func := "tessera/tesseralaw16.DictBuilds", spec := "dictBuilds", unfollowed := true, recurses := true, apart := false }
def DictBuildsSaid : Prop := dictBuildsRow.holds Try.pinned (OpenSpec.ofChange dictBuildsSpec)

/-- ITS FALSE NEIGHBOUR: 'it returns false'. Refute it at one input. -/
def dictBuildsWrong : ChangeSpec := { name := "dictBuilds", fn := fun _ => fun
  | [d1, d2] => { results := [.lit (.bool false)], args := [d1, d2] }
  | _ => none }
def DictBuildsWrongFalsely : Prop := dictBuildsRow.holds Try.pinned (OpenSpec.ofChange dictBuildsWrong)

/-- 'tesseralaw16.DictAnswers': WHATEVER THE INPUT: true; the input reads as it did. -/
def dictAnswersSpec : ChangeSpec := { name := "dictAnswers", fn := fun _ => fun
  | [d1, d2, d3, d4] => { results := [.lit (.bool true)], args := [d1, d2, d3, d4] }
  | _ => none }
def dictAnswersRow : OpenClaim := { program := "ytjgcmnppiaikcaa", sum := "b85bda9042763f909d8c366a1e390b9d0b63d0b78476d349c44f8b255072672a", func := "tessera/tesseralaw16.DictAnswers", spec := "dictAnswers", unfollowed := true, recurses := true, apart := false }
def DictAnswersSaid : Prop := dictAnswersRow.holds Try.pinned (OpenSpec.ofChange dictAnswersSpec)

/-- ITS FALSE NEIGHBOUR: 'it returns false'. Refute it at one input. -/
def dictAnswersWrong : ChangeSpec := { name := "dictAnswers", fn := fun _ => fun
  | [d1, d2, d3, d4] => { results := [.lit (.bool false)], args := [d1, d2, d3, d4] }
  | _ => none }
def DictAnswersWrongFalsely : Prop := dictAnswersRow.holds Try.pinned (OpenSpec.ofChange dictAnswersWrong)

/-- 'tesseralaw16.DictInverse': WHATEVER THE INPUT: true; the input reads as it did. -/
def dictInverseSpec : ChangeSpec := { name := "dictInverse", fn := fun _ => fun
  | [d1, d2, d3] => { results := [.lit (.bool true)], args := [d1, d2, d3] }
  | _ => none }
def dictInverseRow : OpenClaim := { program := "ytjgcmnppiaikcaa", sum := "b85bda9042763f909d8c366a1e390b9d0b63d0b78476d349c44f8b255072672a", func := "tessera/tesseralaw16.DictInverse", spec := "dictInverse", unfollowed := true, recurses := true, apart := false }
def DictInverseSaid : Prop := dictInverseRow.holds Try.pinned (OpenSpec.ofChange dictInverseSpec)

/-- ITS FALSE NEIGHBOUR: 'it returns false'. Refute it at one input. -/
def dictInverseWrong : ChangeSpec := { name := "dictInverse", fn := fun _ => fun
  | [d1, d2, d3] => { results := [.lit (.bool false)], args := [d1, d2, d3] }
  | _ => none }
def DictInverseWrongFalsely : Prop := dictInverseRow.holds Try.pinned (OpenSpec.ofChange dictInverseWrong)

/-- 'tesseralaw16.DictRanges': WHATEVER THE INPUT: true; the input reads as it did. -/
def dictRangesSpec : ChangeSpec := { name := "dictRanges", fn := fun _ => fun
  | [d1, d2] => { results := [.lit (.bool true)], args := [d1, d2] }
  | _ => none }
def dictRangesRow : OpenClaim := { program := "ytjgcmnppiaikcaa", sum := "b85bda9042763f909d8c366a1e390b9d0b63d0b78476d349c44f8b255072672a", func := "tessera/tesseralaw16.DictRanges", spec := "dictRanges", unfollowed := true, recurses := true, apart := false }
def DictRangesSaid : Prop := dictRangesRow.holds Try.pinned (OpenSpec.ofChange dictRangesSpec)

/-- ITS FALSE NEIGHBOUR: 'it returns false'. Refute it at one input. -/
def dictRangesWrong : ChangeSpec := { name := "dictRanges", fn := fun _ => fun
  | [d1, d2] => { results := [.lit (.bool false)], args := [d1, d2] }
  | _ => none }
def DictRangesWrongFalsely : Prop := dictRangesRow.holds Try.pinned (OpenSpec.ofChange dictRangesWrong)

/-- 'tesseralaw16.DictOne': WHATEVER THE INPUT: true; the input reads as it did. -/
def dictOneSpec : ChangeSpec := { name := "dictOne", fn := fun _ => fun
  | [d1, d2, d3] => { results := [.lit (.bool true)], args := [d1, d2, d3] }
  | _ => none }
def dictOneRow : OpenClaim := { program := "ytjgcmnppiaikcaa", sum := "b85bda9042763f909d8c366a1e390b9d0b63d0b78476d349c44f8b255072672a", func := "tessera/tesseralaw16.DictOne", spec := "dictOne", unfollowed := true, recurses := true, apart := false }
def DictOneSaid : Prop := dictOneRow.holds Try.pinned (OpenSpec.ofChange dictOneSpec)

/-- ITS FALSE NEIGHBOUR: 'it returns false'. Refute it at one input. -/
def dictOneWrong : ChangeSpec := { name := "dictOne", fn := fun _ => fun
  | [d1, d2, d3] => { results := [.lit (.bool false)], args := [d1, d2, d3] }
  | _ => none }
def DictOneWrongFalsely : Prop := dictOneRow.holds Try.pinned (OpenSpec.ofChange dictOneWrong)

/-- 'tesseralaw16.DictWalks': WHATEVER THE INPUT: true; the input reads as it did. -/
def dictWalksSpec : ChangeSpec := { name := "dictWalks", fn := fun _ => fun
  | [d1, d2, d3] => { results := [.lit (.bool true)], args := [d1, d2, d3] }
  | _ => none }
def dictWalksRow : OpenClaim := { program := "ytjgcmnppiaikcaa", sum := "b85bda9042763f909d8c366a1e390b9d0b63d0b78476d349c44f8b255072672a", func := "tessera/tesseralaw16.DictWalks", spec := "dictWalks", unfollowed := true, recurses := true, apart := false }
def DictWalksSaid : Prop := dictWalksRow.holds Try.pinned (OpenSpec.ofChange dictWalksSpec)

/-- ITS FALSE NEIGHBOUR: 'it returns false'. Refute it at one input. -/
def dictWalksWrong : ChangeSpec := { name := "dictWalks", fn := fun _ => fun
  | [d1, d2, d3] => { results := [.lit (.bool false)], args := [d1, d2, d3] }
  | _ => none }
def DictWalksWrongFalsely : Prop := dictWalksRow.holds Try.pinned (OpenSpec.ofChange dictWalksWrong)

/-- 'tesseralaw16.DictWild': WHATEVER THE INPUT: true; the input reads as it did. -/
def dictWildSpec : ChangeSpec := { name := "dictWild", fn := fun _ => fun
  | [d1, d2, d3] => { results := [.lit (.bool true)], args := [d1, d2, d3] }
  | _ => none }
def dictWildRow : OpenClaim := { program := "ytjgcmnppiaikcaa", sum := "b85bda9042763f909d8c366a1e390b9d0b63d0b78476d349c44f8b255072672a", func := "tessera/tesseralaw16.DictWild", spec := "dictWild", unfollowed := true, recurses := true, apart := false }
def DictWildSaid : Prop := dictWildRow.holds Try.pinned (OpenSpec.ofChange dictWildSpec)

/-- ITS FALSE NEIGHBOUR: 'it returns false'. Refute it at one input. -/
def dictWildWrong : ChangeSpec := { name := "dictWild", fn := fun _ => fun
  | [d1, d2, d3] => { results := [.lit (.bool false)], args := [d1, d2, d3] }
  | _ => none }
def DictWildWrongFalsely : Prop := dictWildRow.holds Try.pinned (OpenSpec.ofChange dictWildWrong)

/- THE SECOND FORM. 'bulk': how many values and letters a reading holds, each counted each time it is reached (what is shared counts as often as it is met; a slice's spare places count too). A statement '..UptoSaid' is the law's where the arguments, and the package variables that the reading takes, are together of bulk at most 1048576: NARROWER than '..Said'. Prove '..Said' where nothing that the law and all that it calls make is longer than what came in: it says more and counts as full. Else prove '..UptoSaid'. A law counts once. -/
mutual
def uptoBulk {H : Type} : DataW H → Nat
  | .lit (.string bytes) => bytes.length + 1
  | .lit _ => 1
  | .nil => 1
  | .ptr d => uptoBulk d + 1
  | .slice elems spare => uptoBulkAll elems + uptoBulkAll spare + 1
  | .agg parts => uptoBulkAll parts + 1
  | .iface _ d => uptoBulk d + 1
  | .map entries => uptoBulkEntries entries + 1
  | .held _ => 1
def uptoBulkAll {H : Type} : List (DataW H) → Nat
  | [] => 0
  | d :: r => uptoBulk d + uptoBulkAll r
def uptoBulkEntries {H : Type} : List (Lit × DataW H) → Nat
  | [] => 0
  | x :: r => uptoBulkEntry x + uptoBulkEntries r
def uptoBulkEntry {H : Type} : Lit × DataW H → Nat
  | (.string bytes, d) => bytes.length + uptoBulk d + 1
  | (_, d) => uptoBulk d + 1
 end
def uptoSmall : (H : Type) → List (DataW H) → Bool := fun _ ds => decide (uptoBulkAll ds ≤ 1048576)
def OpenSpec.upto (s : _root_.Go.ChangeSpec) : _root_.Go.OpenSpec := { _root_.Go.OpenSpec.ofChange s with cond := some uptoSmall }

/-- 'tesseralaw16.DictBuilds', WHERE WHAT IT READS IS OF BULK AT MOST 1048576: true; the input reads as it did. -/
def dictBuildsUptoRow : OpenClaim := { program := "ytjgcmnppiaikcaa", sum := "b85bda9042763f909d8c366a1e390b9d0b63d0b78476d349c44f8b255072672a", func := "tessera/tesseralaw16.DictBuilds", spec := "dictBuilds", unfollowed := true, recurses := true, apart := false, narrowed := true }
def DictBuildsUptoSaid : Prop := dictBuildsUptoRow.holds Try.pinned (OpenSpec.upto dictBuildsSpec)

/-- 'tesseralaw16.DictAnswers', WHERE WHAT IT READS IS OF BULK AT MOST 1048576: true; the input reads as it did. -/
def dictAnswersUptoRow : OpenClaim := { program := "ytjgcmnppiaikcaa", sum := "b85bda9042763f909d8c366a1e390b9d0b63d0b78476d349c44f8b255072672a", func := "tessera/tesseralaw16.DictAnswers", spec := "dictAnswers", unfollowed := true, recurses := true, apart := false, narrowed := true }
def DictAnswersUptoSaid : Prop := dictAnswersUptoRow.holds Try.pinned (OpenSpec.upto dictAnswersSpec)

/-- 'tesseralaw16.DictInverse', WHERE WHAT IT READS IS OF BULK AT MOST 1048576: true; the input reads as it did. -/
def dictInverseUptoRow : OpenClaim := { program := "ytjgcmnppiaikcaa", sum := "b85bda9042763f909d8c366a1e390b9d0b63d0b78476d349c44f8b255072672a", func := "tessera/tesseralaw16.DictInverse", spec := "dictInverse", unfollowed := true, recurses := true, apart := false, narrowed := true }
def DictInverseUptoSaid : Prop := dictInverseUptoRow.holds Try.pinned (OpenSpec.upto dictInverseSpec)

/-- 'tesseralaw16.DictRanges', WHERE WHAT IT READS IS OF BULK AT MOST 1048576: true; the input reads as it did. -/
def dictRangesUptoRow : OpenClaim := { program := "ytjgcmnppiaikcaa", sum := "b85bda9042763f909d8c366a1e390b9d0b63d0b78476d349c44f8b255072672a", func := "tessera/tesseralaw16.DictRanges", spec := "dictRanges", unfollowed := true, recurses := true, apart := false, narrowed := true }
def DictRangesUptoSaid : Prop := dictRangesUptoRow.holds Try.pinned (OpenSpec.upto dictRangesSpec)

/-- 'tesseralaw16.DictOne', WHERE WHAT IT READS IS OF BULK AT MOST 1048576: true; the input reads as it did. -/
def dictOneUptoRow : OpenClaim := { program := "ytjgcmnppiaikcaa", sum := "b85bda9042763f909d8c366a1e390b9d0b63d0b78476d349c44f8b255072672a", func := "tessera/tesseralaw16.DictOne", spec := "dictOne", unfollowed := true, recurses := true, apart := false, narrowed := true }
def DictOneUptoSaid : Prop := dictOneUptoRow.holds Try.pinned (OpenSpec.upto dictOneSpec)

/-- 'tesseralaw16.DictWalks', WHERE WHAT IT READS IS OF BULK AT MOST 1048576: true; the input reads as it did. -/
def dictWalksUptoRow : OpenClaim := { program := "ytjgcmnppiaikcaa", sum := "b85bda9042763f909d8c366a1e390b9d0b63d0b78476d349c44f8b255072672a", func := "tessera/tesseralaw16.DictWalks", spec := "dictWalks", unfollowed := true, recurses := true, apart := false, narrowed := true }
def DictWalksUptoSaid : Prop := dictWalksUptoRow.holds Try.pinned (OpenSpec.upto dictWalksSpec)

/-- 'tesseralaw16.DictWild', WHERE WHAT IT READS IS OF BULK AT MOST 1048576: true; the input reads as it did. -/
def dictWildUptoRow : OpenClaim := { program := "ytjgcmnppiaikcaa", sum := "b85bda9042763f909d8c366a1e390b9d0b63d0b78476d349c44f8b255072672a", func := "tessera/tesseralaw16.DictWild", spec := "dictWild", unfollowed := true, recurses := true, apart := false, narrowed := true }
def DictWildUptoSaid : Prop := dictWildUptoRow.holds Try.pinned (OpenSpec.upto dictWildSpec)

end Rows
end Go.Proofs.Ytjgcmnppiaikcaa
