/-
  No cell of these rows narrows 'for every input' (looked for: loops, veiled, ifaces, maps, wideKeys, modest, calm, conditions, laid).
  DERIVED. THE GIVEN ROWS OF THIS SEAT. 11 by the template 'for every input the law returns true; each argument reads behind the call as it read before'; 0 by the template 'total and deterministic' (their statements: YthdkhlkmcebfeaaTotals.lean).
  GIVEN WITH THE SEED: the statements are not yours to turn. If you find one false, say at which input.
  Laid BY PROGRAM, IN A SANDBOX (cutbox-rows.mjs): the forced cells as the released guide's own fill.sh prints them over the translation e504cf844f9e7765… (all of the seat's roots in one cut). By AI agents, Wed Nov 11 2026. No macro, syntax, notation, axiom, sorry.
-/
import Derived.Test.YthdkhlkmcebfeaaChecked
import GoSem.Claim
import GoSem.ClaimJoined
import GoSem.ClaimMapViews
import Derived.JoinedTies
import Derived.KernelRfl
namespace Go.Proofs.Ythdkhlkmcebfeaa
/- THE CELL 'sum', in the pinned program and in every row, IS THE sha256 OF THE DUMP (.gsa) THAT YthdkhlkmcebfeaaProg.lean LOADS. Nothing in Lean hashes anything: it is a label: what it is worth is what the hold of that sum in a sandbox is worth. -/
noncomputable def Try.pinned : Pinned := { name := "ythdkhlkmcebfeaa", sum := "e504cf844f9e77655376b9f80c8fee75c9fb3d6e942322c3fa1c63cfe8c0c78c", checked := Try.checked }
namespace Rows
def none {H : Type} : Left H := { results := [], args := [] }

/-- 'tesseralaw05.IriCleans': WHATEVER THE INPUT: true; the input reads as it did. -/
def iriCleansSpec : ChangeSpec := { name := "iriCleans", fn := fun _ => fun
  | [d] => { results := [.lit (.bool true)], args := [d] }
  | _ => none }
def iriCleansRow : OpenClaim := { program := "ythdkhlkmcebfeaa", sum := "e504cf844f9e77655376b9f80c8fee75c9fb3d6e942322c3fa1c63cfe8c0c78c", func := "tessera/tesseralaw05.IriCleans", spec := "iriCleans", inPlace := ["internal/bytealg.IndexByteString"], unfollowed := true, recurses := true, apart := false }
def IriCleansSaid : Prop := iriCleansRow.holds Try.pinned (OpenSpec.ofChange iriCleansSpec)

/-- ITS FALSE NEIGHBOUR: 'it returns false'. Refute it at one input. -/
def iriCleansWrong : ChangeSpec := { name := "iriCleans", fn := fun _ => fun
  | [d] => { results := [.lit (.bool false)], args := [d] }
  | _ => none }
def IriCleansWrongFalsely : Prop := iriCleansRow.holds Try.pinned (OpenSpec.ofChange iriCleansWrong)

/-- 'tesseralaw05.IriSegments': WHATEVER THE INPUT: true; the input reads as it did. -/
def iriSegmentsSpec : ChangeSpec := { name := "iriSegments", fn := fun _ => fun
  | [d1, d2, d3] => { results := [.lit (.bool true)], args := [d1, d2, d3] }
  | _ => none }
def iriSegmentsRow : OpenClaim := { program := "ythdkhlkmcebfeaa", sum := "e504cf844f9e77655376b9f80c8fee75c9fb3d6e942322c3fa1c63cfe8c0c78c", func := "tessera/tesseralaw05.IriSegments", spec := "iriSegments", inPlace := ["internal/bytealg.IndexByteString", "internal/bytealg.IndexString"], unfollowed := true, recurses := true, named := ["internal/bytealg.MaxLen"], apart := false }
def IriSegmentsSaid : Prop := iriSegmentsRow.holds Try.pinned (OpenSpec.ofChange iriSegmentsSpec)

/-- ITS FALSE NEIGHBOUR: 'it returns false'. Refute it at one input. -/
def iriSegmentsWrong : ChangeSpec := { name := "iriSegments", fn := fun _ => fun
  | [d1, d2, d3] => { results := [.lit (.bool false)], args := [d1, d2, d3] }
  | _ => none }
def IriSegmentsWrongFalsely : Prop := iriSegmentsRow.holds Try.pinned (OpenSpec.ofChange iriSegmentsWrong)

/-- 'tesseralaw05.IriChecks': WHATEVER THE INPUT: true; the input reads as it did. -/
def iriChecksSpec : ChangeSpec := { name := "iriChecks", fn := fun _ => fun
  | [d] => { results := [.lit (.bool true)], args := [d] }
  | _ => none }
def iriChecksRow : OpenClaim := { program := "ythdkhlkmcebfeaa", sum := "e504cf844f9e77655376b9f80c8fee75c9fb3d6e942322c3fa1c63cfe8c0c78c", func := "tessera/tesseralaw05.IriChecks", spec := "iriChecks", inPlace := ["internal/bytealg.IndexByteString", "internal/bytealg.IndexString"], unfollowed := true, recurses := true, named := ["internal/bytealg.MaxLen"], apart := false }
def IriChecksSaid : Prop := iriChecksRow.holds Try.pinned (OpenSpec.ofChange iriChecksSpec)

/-- ITS FALSE NEIGHBOUR: 'it returns false'. Refute it at one input. -/
def iriChecksWrong : ChangeSpec := { name := "iriChecks", fn := fun _ => fun
  | [d] => { results := [.lit (.bool false)], args := [d] }
  | _ => none }
def IriChecksWrongFalsely : Prop := iriChecksRow.holds Try.pinned (OpenSpec.ofChange iriChecksWrong)

/-- 'tesseralaw05.IriSplits': WHATEVER THE INPUT: true; the input reads as it did. -/
def iriSplitsSpec : ChangeSpec := { name := "iriSplits", fn := fun _ => fun
  | [d] => { results := [.lit (.bool true)], args := [d] }
  | _ => none }
def iriSplitsRow : OpenClaim := { program := "ythdkhlkmcebfeaa", sum := "e504cf844f9e77655376b9f80c8fee75c9fb3d6e942322c3fa1c63cfe8c0c78c", func := "tessera/tesseralaw05.IriSplits", spec := "iriSplits", inPlace := ["internal/bytealg.IndexByteString", "internal/bytealg.IndexString"], unfollowed := true, recurses := true, named := ["internal/bytealg.MaxLen"], apart := false }
def IriSplitsSaid : Prop := iriSplitsRow.holds Try.pinned (OpenSpec.ofChange iriSplitsSpec)

/-- ITS FALSE NEIGHBOUR: 'it returns false'. Refute it at one input. -/
def iriSplitsWrong : ChangeSpec := { name := "iriSplits", fn := fun _ => fun
  | [d] => { results := [.lit (.bool false)], args := [d] }
  | _ => none }
def IriSplitsWrongFalsely : Prop := iriSplitsRow.holds Try.pinned (OpenSpec.ofChange iriSplitsWrong)

/-- 'tesseralaw05.IriJoins': WHATEVER THE INPUT: true; the input reads as it did. -/
def iriJoinsSpec : ChangeSpec := { name := "iriJoins", fn := fun _ => fun
  | [d] => { results := [.lit (.bool true)], args := [d] }
  | _ => none }
def iriJoinsRow : OpenClaim := { program := "ythdkhlkmcebfeaa", sum := "e504cf844f9e77655376b9f80c8fee75c9fb3d6e942322c3fa1c63cfe8c0c78c", func := "tessera/tesseralaw05.IriJoins", spec := "iriJoins", inPlace := ["internal/bytealg.IndexByteString", "internal/bytealg.IndexString"], unfollowed := true, recurses := true, named := ["internal/bytealg.MaxLen"], apart := false }
def IriJoinsSaid : Prop := iriJoinsRow.holds Try.pinned (OpenSpec.ofChange iriJoinsSpec)

/-- ITS FALSE NEIGHBOUR: 'it returns false'. Refute it at one input. -/
def iriJoinsWrong : ChangeSpec := { name := "iriJoins", fn := fun _ => fun
  | [d] => { results := [.lit (.bool false)], args := [d] }
  | _ => none }
def IriJoinsWrongFalsely : Prop := iriJoinsRow.holds Try.pinned (OpenSpec.ofChange iriJoinsWrong)

/-- 'tesseralaw05.IriResolves': WHATEVER THE INPUT: true; the input reads as it did. -/
def iriResolvesSpec : ChangeSpec := { name := "iriResolves", fn := fun _ => fun
  | [d1, d2] => { results := [.lit (.bool true)], args := [d1, d2] }
  | _ => none }
def iriResolvesRow : OpenClaim := { program := "ythdkhlkmcebfeaa", sum := "e504cf844f9e77655376b9f80c8fee75c9fb3d6e942322c3fa1c63cfe8c0c78c", func := "tessera/tesseralaw05.IriResolves", spec := "iriResolves", inPlace := ["internal/bytealg.IndexByteString", "internal/bytealg.IndexString"], unfollowed := true, recurses := true, named := ["internal/bytealg.MaxLen"], apart := false }
def IriResolvesSaid : Prop := iriResolvesRow.holds Try.pinned (OpenSpec.ofChange iriResolvesSpec)

/-- ITS FALSE NEIGHBOUR: 'it returns false'. Refute it at one input. -/
def iriResolvesWrong : ChangeSpec := { name := "iriResolves", fn := fun _ => fun
  | [d1, d2] => { results := [.lit (.bool false)], args := [d1, d2] }
  | _ => none }
def IriResolvesWrongFalsely : Prop := iriResolvesRow.holds Try.pinned (OpenSpec.ofChange iriResolvesWrong)

/-- 'tesseralaw05.IriRelates': WHATEVER THE INPUT: true; the input reads as it did. -/
def iriRelatesSpec : ChangeSpec := { name := "iriRelates", fn := fun _ => fun
  | [d1, d2] => { results := [.lit (.bool true)], args := [d1, d2] }
  | _ => none }
def iriRelatesRow : OpenClaim := { program := "ythdkhlkmcebfeaa", sum := "e504cf844f9e77655376b9f80c8fee75c9fb3d6e942322c3fa1c63cfe8c0c78c", func := "tessera/tesseralaw05.IriRelates", spec := "iriRelates", inPlace := ["internal/bytealg.IndexByteString", "internal/bytealg.IndexString", "internal/bytealg.CountString", "internal/abi.NoEscape", "internal/bytealg.MakeNoZero"], unfollowed := true, recurses := true, named := ["internal/bytealg.MaxLen"], apart := false }
def IriRelatesSaid : Prop := iriRelatesRow.holds Try.pinned (OpenSpec.ofChange iriRelatesSpec)

/-- ITS FALSE NEIGHBOUR: 'it returns false'. Refute it at one input. -/
def iriRelatesWrong : ChangeSpec := { name := "iriRelates", fn := fun _ => fun
  | [d1, d2] => { results := [.lit (.bool false)], args := [d1, d2] }
  | _ => none }
def IriRelatesWrongFalsely : Prop := iriRelatesRow.holds Try.pinned (OpenSpec.ofChange iriRelatesWrong)

/-- 'tesseralaw05.IriClean': WHATEVER THE INPUT: true; the input reads as it did. -/
def iriCleanSpec : ChangeSpec := { name := "iriClean", fn := fun _ => fun
  | [d] => { results := [.lit (.bool true)], args := [d] }
  | _ => none }
def iriCleanRow : OpenClaim := { program := "ythdkhlkmcebfeaa", sum := "e504cf844f9e77655376b9f80c8fee75c9fb3d6e942322c3fa1c63cfe8c0c78c", func := "tessera/tesseralaw05.IriClean", spec := "iriClean", inPlace := ["internal/bytealg.IndexByteString", "internal/bytealg.IndexString", "internal/bytealg.CountString", "internal/abi.NoEscape", "internal/bytealg.MakeNoZero"], unfollowed := true, recurses := true, named := ["internal/bytealg.MaxLen"], apart := false }
def IriCleanSaid : Prop := iriCleanRow.holds Try.pinned (OpenSpec.ofChange iriCleanSpec)

/-- ITS FALSE NEIGHBOUR: 'it returns false'. Refute it at one input. -/
def iriCleanWrong : ChangeSpec := { name := "iriClean", fn := fun _ => fun
  | [d] => { results := [.lit (.bool false)], args := [d] }
  | _ => none }
def IriCleanWrongFalsely : Prop := iriCleanRow.holds Try.pinned (OpenSpec.ofChange iriCleanWrong)

/-- 'tesseralaw05.IriRelative': WHATEVER THE INPUT: true; the input reads as it did. -/
def iriRelativeSpec : ChangeSpec := { name := "iriRelative", fn := fun _ => fun
  | [d1, d2] => { results := [.lit (.bool true)], args := [d1, d2] }
  | _ => none }
def iriRelativeRow : OpenClaim := { program := "ythdkhlkmcebfeaa", sum := "e504cf844f9e77655376b9f80c8fee75c9fb3d6e942322c3fa1c63cfe8c0c78c", func := "tessera/tesseralaw05.IriRelative", spec := "iriRelative", inPlace := ["internal/bytealg.IndexByteString", "internal/bytealg.IndexString", "internal/bytealg.CountString", "internal/abi.NoEscape", "internal/bytealg.MakeNoZero"], unfollowed := true, recurses := true, named := ["internal/bytealg.MaxLen"], apart := false }
def IriRelativeSaid : Prop := iriRelativeRow.holds Try.pinned (OpenSpec.ofChange iriRelativeSpec)

/-- ITS FALSE NEIGHBOUR: 'it returns false'. Refute it at one input. -/
def iriRelativeWrong : ChangeSpec := { name := "iriRelative", fn := fun _ => fun
  | [d1, d2] => { results := [.lit (.bool false)], args := [d1, d2] }
  | _ => none }
def IriRelativeWrongFalsely : Prop := iriRelativeRow.holds Try.pinned (OpenSpec.ofChange iriRelativeWrong)

/-- 'tesseralaw05.IriBack': WHATEVER THE INPUT: true; the input reads as it did. -/
def iriBackSpec : ChangeSpec := { name := "iriBack", fn := fun _ => fun
  | [d1, d2] => { results := [.lit (.bool true)], args := [d1, d2] }
  | _ => none }
def iriBackRow : OpenClaim := { program := "ythdkhlkmcebfeaa", sum := "e504cf844f9e77655376b9f80c8fee75c9fb3d6e942322c3fa1c63cfe8c0c78c", func := "tessera/tesseralaw05.IriBack", spec := "iriBack", inPlace := ["internal/bytealg.IndexByteString", "internal/bytealg.IndexString", "internal/bytealg.CountString", "internal/abi.NoEscape", "internal/bytealg.MakeNoZero"], unfollowed := true, recurses := true, named := ["internal/bytealg.MaxLen"], apart := false }
def IriBackSaid : Prop := iriBackRow.holds Try.pinned (OpenSpec.ofChange iriBackSpec)

/-- ITS FALSE NEIGHBOUR: 'it returns false'. Refute it at one input. -/
def iriBackWrong : ChangeSpec := { name := "iriBack", fn := fun _ => fun
  | [d1, d2] => { results := [.lit (.bool false)], args := [d1, d2] }
  | _ => none }
def IriBackWrongFalsely : Prop := iriBackRow.holds Try.pinned (OpenSpec.ofChange iriBackWrong)

/-- 'tesseralaw05.IriResolved': WHATEVER THE INPUT: true; the input reads as it did. -/
def iriResolvedSpec : ChangeSpec := { name := "iriResolved", fn := fun _ => fun
  | [d1, d2, d3] => { results := [.lit (.bool true)], args := [d1, d2, d3] }
  | _ => none }
def iriResolvedRow : OpenClaim := { program := "ythdkhlkmcebfeaa", sum := "e504cf844f9e77655376b9f80c8fee75c9fb3d6e942322c3fa1c63cfe8c0c78c", func := "tessera/tesseralaw05.IriResolved", spec := "iriResolved", inPlace := ["internal/bytealg.IndexByteString", "internal/bytealg.IndexString", "internal/bytealg.CountString", "internal/abi.NoEscape", "internal/bytealg.MakeNoZero"], unfollowed := true, recurses := true, named := ["internal/bytealg.MaxLen"], apart := false }
def IriResolvedSaid : Prop := iriResolvedRow.holds Try.pinned (OpenSpec.ofChange iriResolvedSpec)

/-- ITS FALSE NEIGHBOUR: 'it returns false'. Refute it at one input. -/
def iriResolvedWrong : ChangeSpec := { name := "iriResolved", fn := fun _ => fun
  | [d1, d2, d3] => { results := [.lit (.bool false)], args := [d1, d2, d3] }
  | _ => none }
def IriResolvedWrongFalsely : Prop := iriResolvedRow.holds Try.pinned (OpenSpec.ofChange iriResolvedWrong)

/- THE SECOND FORM. 'bulk': how many values and letters a reading holds, each counted each time it is reached (what is shared counts as often as it is met; a slice's spare places count too). A statement '..UptoSaid' is the law's where the arguments, and the package variables that the reading takes, are together of bulk at most 1048576: NARROWER than '..Said'. Prove '..Said' where nothing that the law and all that it calls make is longer than what came in: it says more and counts as full. Else prove '..UptoSaid'. A law counts once. -/
mutual
def uptoBulk {H : Type} : DataW H → Nat
  | .lit (.string bytes) => bytes.length + 1
  | .lit _ => 1
  | .nil => 1
  | .ptr d => uptoBulk d + 1
  | .slice elems spare => uptoBulkAll elems + uptoBulkAll spare + 1
  | .agg parts => uptoBulkAll parts + 1
  | .iface _ d => uptoBulk d + 1
  | .map entries => uptoBulkEntries entries + 1
  | .held _ => 1
def uptoBulkAll {H : Type} : List (DataW H) → Nat
  | [] => 0
  | d :: r => uptoBulk d + uptoBulkAll r
def uptoBulkEntries {H : Type} : List (Lit × DataW H) → Nat
  | [] => 0
  | x :: r => uptoBulkEntry x + uptoBulkEntries r
def uptoBulkEntry {H : Type} : Lit × DataW H → Nat
  | (.string bytes, d) => bytes.length + uptoBulk d + 1
  | (_, d) => uptoBulk d + 1
 end
def uptoSmall : (H : Type) → List (DataW H) → Bool := fun _ ds => decide (uptoBulkAll ds ≤ 1048576)
def OpenSpec.upto (s : _root_.Go.ChangeSpec) : _root_.Go.OpenSpec := { _root_.Go.OpenSpec.ofChange s with cond := some uptoSmall }

/-- 'tesseralaw05.IriCleans', WHERE WHAT IT READS IS OF BULK AT MOST 1048576: true; the input reads as it did. -/
def iriCleansUptoRow : OpenClaim := { program := "ythdkhlkmcebfeaa", sum := "e504cf844f9e77655376b9f80c8fee75c9fb3d6e942322c3fa1c63cfe8c0c78c", func := "tessera/tesseralaw05.IriCleans", spec := "iriCleans", inPlace := ["internal/bytealg.IndexByteString"], unfollowed := true, recurses := true, apart := false, narrowed := true }
def IriCleansUptoSaid : Prop := iriCleansUptoRow.holds Try.pinned (OpenSpec.upto iriCleansSpec)

/-- 'tesseralaw05.IriSegments', WHERE WHAT IT READS IS OF BULK AT MOST 1048576: true; the input reads as it did. -/
def iriSegmentsUptoRow : OpenClaim := { program := "ythdkhlkmcebfeaa", sum := "e504cf844f9e77655376b9f80c8fee75c9fb3d6e942322c3fa1c63cfe8c0c78c", func := "tessera/tesseralaw05.IriSegments", spec := "iriSegments", inPlace := ["internal/bytealg.IndexByteString", "internal/bytealg.IndexString"], unfollowed := true, recurses := true, named := ["internal/bytealg.MaxLen"], apart := false, narrowed := true }
def IriSegmentsUptoSaid : Prop := iriSegmentsUptoRow.holds Try.pinned (OpenSpec.upto iriSegmentsSpec)

/-- 'tesseralaw05.IriChecks', WHERE WHAT IT READS IS OF BULK AT MOST 1048576: true; the input reads as it did. -/
def iriChecksUptoRow : OpenClaim := { program := "ythdkhlkmcebfeaa", sum := "e504cf844f9e77655376b9f80c8fee75c9fb3d6e942322c3fa1c63cfe8c0c78c", func := "tessera/tesseralaw05.IriChecks", spec := "iriChecks", inPlace := ["internal/bytealg.IndexByteString", "internal/bytealg.IndexString"], unfollowed := true, recurses := true, named := ["internal/bytealg.MaxLen"], apart := false, narrowed := true }
def IriChecksUptoSaid : Prop := iriChecksUptoRow.holds Try.pinned (OpenSpec.upto iriChecksSpec)

/-- 'tesseralaw05.IriSplits', WHERE WHAT IT READS IS OF BULK AT MOST 1048576: true; the input reads as it did. -/
def iriSplitsUptoRow : OpenClaim := { program := "ythdkhlkmcebfeaa", sum := "e504cf844f9e77655376b9f80c8fee75c9fb3d6e942322c3fa1c63cfe8c0c78c", func := "tessera/tesseralaw05.IriSplits", spec := "iriSplits", inPlace := ["internal/bytealg.IndexByteString", "internal/bytealg.IndexString"], unfollowed := true, recurses := true, named := ["internal/bytealg.MaxLen"], apart := false, narrowed := true }
def IriSplitsUptoSaid : Prop := iriSplitsUptoRow.holds Try.pinned (OpenSpec.upto iriSplitsSpec)

/-- 'tesseralaw05.IriJoins', WHERE WHAT IT READS IS OF BULK AT MOST 1048576: true; the input reads as it did. -/
def iriJoinsUptoRow : OpenClaim := { program := "ythdkhlkmcebfeaa", sum := "e504cf844f9e77655376b9f80c8fee75c9fb3d6e942322c3fa1c63cfe8c0c78c", func := "tessera/tesseralaw05.IriJoins", spec := "iriJoins", inPlace := ["internal/bytealg.IndexByteString", "internal/bytealg.IndexString"], unfollowed := true, recurses := true, named := ["internal/bytealg.MaxLen"], apart := false, narrowed := true }
def IriJoinsUptoSaid : Prop := iriJoinsUptoRow.holds Try.pinned (OpenSpec.upto iriJoinsSpec)

/-- 'tesseralaw05.IriResolves', WHERE WHAT IT READS IS OF BULK AT MOST 1048576: true; the input reads as it did. -/
def iriResolvesUptoRow : OpenClaim := { program := "ythdkhlkmcebfeaa", sum := "e504cf844f9e77655376b9f80c8fee75c9fb3d6e942322c3fa1c63cfe8c0c78c", func := "tessera/tesseralaw05.IriResolves", spec := "iriResolves", inPlace := ["internal/bytealg.IndexByteString", "internal/bytealg.IndexString"], unfollowed := true, recurses := true, named := ["internal/bytealg.MaxLen"], apart := false, narrowed := true }
def IriResolvesUptoSaid : Prop := iriResolvesUptoRow.holds Try.pinned (OpenSpec.upto iriResolvesSpec)

/-- 'tesseralaw05.IriRelates', WHERE WHAT IT READS IS OF BULK AT MOST 1048576: true; the input reads as it did. -/
def iriRelatesUptoRow : OpenClaim := { program := "ythdkhlkmcebfeaa", sum := "e504cf844f9e77655376b9f80c8fee75c9fb3d6e942322c3fa1c63cfe8c0c78c", func := "tessera/tesseralaw05.IriRelates", spec := "iriRelates", inPlace := ["internal/bytealg.IndexByteString", "internal/bytealg.IndexString", "internal/bytealg.CountString", "internal/abi.NoEscape", "internal/bytealg.MakeNoZero"], unfollowed := true, recurses := true, named := ["internal/bytealg.MaxLen"], apart := false, narrowed := true }
def IriRelatesUptoSaid : Prop := iriRelatesUptoRow.holds Try.pinned (OpenSpec.upto iriRelatesSpec)

/-- 'tesseralaw05.IriClean', WHERE WHAT IT READS IS OF BULK AT MOST 1048576: true; the input reads as it did. -/
def iriCleanUptoRow : OpenClaim := { program := "ythdkhlkmcebfeaa", sum := "e504cf844f9e77655376b9f80c8fee75c9fb3d6e942322c3fa1c63cfe8c0c78c", func := "tessera/tesseralaw05.IriClean", spec := "iriClean", inPlace := ["internal/bytealg.IndexByteString", "internal/bytealg.IndexString", "internal/bytealg.CountString", "internal/abi.NoEscape", "internal/bytealg.MakeNoZero"], unfollowed := true, recurses := true, named := ["internal/bytealg.MaxLen"], apart := false, narrowed := true }
def IriCleanUptoSaid : Prop := iriCleanUptoRow.holds Try.pinned (OpenSpec.upto iriCleanSpec)

/-- 'tesseralaw05.IriRelative', WHERE WHAT IT READS IS OF BULK AT MOST 1048576: true; the input reads as it did. -/
def iriRelativeUptoRow : OpenClaim := { program := "ythdkhlkmcebfeaa", sum := "e504cf844f9e77655376b9f80c8fee75c9fb3d6e942322c3fa1c63cfe8c0c78c", func := "tessera/tesseralaw05.IriRelative", spec := "iriRelative", inPlace := ["internal/bytealg.IndexByteString", "internal/bytealg.IndexString", "internal/bytealg.CountString", "internal/abi.NoEscape", "internal/bytealg.MakeNoZero"], unfollowed := true, recurses := true, named := ["internal/bytealg.MaxLen"], apart := false, narrowed := true }
def IriRelativeUptoSaid : Prop := iriRelativeUptoRow.holds Try.pinned (OpenSpec.upto iriRelativeSpec)

/-- 'tesseralaw05.IriBack', WHERE WHAT IT READS IS OF BULK AT MOST 1048576: true; the input reads as it did. -/
def iriBackUptoRow : OpenClaim := { program := "ythdkhlkmcebfeaa", sum := "e504cf844f9e77655376b9f80c8fee75c9fb3d6e942322c3fa1c63cfe8c0c78c", func := "tessera/tesseralaw05.IriBack", spec := "iriBack", inPlace := ["internal/bytealg.IndexByteString", "internal/bytealg.IndexString", "internal/bytealg.CountString", "internal/abi.NoEscape", "internal/bytealg.MakeNoZero"], unfollowed := true, recurses := true, named := ["internal/bytealg.MaxLen"], apart := false, narrowed := true }
def IriBackUptoSaid : Prop := iriBackUptoRow.holds Try.pinned (OpenSpec.upto iriBackSpec)

/-- 'tesseralaw05.IriResolved', WHERE WHAT IT READS IS OF BULK AT MOST 1048576: true; the input reads as it did. -/
def iriResolvedUptoRow : OpenClaim := { program := "ythdkhlkmcebfeaa", sum := "e504cf844f9e77655376b9f80c8fee75c9fb3d6e942322c3fa1c63cfe8c0c78c", func := "tessera/tesseralaw05.IriResolved", spec := "iriResolved", inPlace := ["internal/bytealg.IndexByteString", "internal/bytealg.IndexString", "internal/bytealg.CountString", "internal/abi.NoEscape", "internal/bytealg.MakeNoZero"], unfollowed := true, recurses := true, named := ["internal/bytealg.MaxLen"], apart := false, narrowed := true }
def IriResolvedUptoSaid : Prop := iriResolvedUptoRow.holds Try.pinned (OpenSpec.upto iriResolvedSpec)

end Rows
end Go.Proofs.Ythdkhlkmcebfeaa
