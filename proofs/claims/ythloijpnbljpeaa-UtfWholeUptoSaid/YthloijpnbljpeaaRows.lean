/-
  No cell of these rows narrows 'for every input' (looked for: loops, veiled, ifaces, maps, wideKeys, modest, calm, conditions, laid).
  DERIVED. THE GIVEN ROWS OF THIS SEAT. 3 by the template 'for every input the law returns true; each argument reads behind the call as it read before'; 0 by the template 'total and deterministic' (their statements: YthloijpnbljpeaaTotals.lean).
  GIVEN WITH THE SEED: the statements are not yours to turn. If you find one false, say at which input.
  Laid BY PROGRAM, IN A SANDBOX (cutbox-rows.mjs): the forced cells as the released guide's own fill.sh prints them over the translation 83ca86b8502c9020… (all of the seat's roots in one cut). By AI agents, Wed Nov 11 2026. No macro, syntax, notation, axiom, sorry.
-/
import Derived.Test.YthloijpnbljpeaaChecked
import GoSem.Claim
import GoSem.ClaimJoined
import GoSem.ClaimMapViews
import Derived.JoinedTies
import Derived.KernelRfl
namespace Go.Proofs.Ythloijpnbljpeaa
/- THE CELL 'sum', in the pinned program and in every row, IS THE sha256 OF THE DUMP (.gsa) THAT YthloijpnbljpeaaProg.lean LOADS. Nothing in Lean hashes anything: it is a label: what it is worth is what the hold of that sum in a sandbox is worth. -/
noncomputable def Try.pinned : Pinned := { name := "ythloijpnbljpeaa", sum := "83ca86b8502c90207d5fd8cf62b9231f6b0222ec2aabce56a0062ef87a0a1291", checked := Try.checked }
namespace Rows
def none {H : Type} : Left H := { results := [], args := [] }

/-- 'tesseralaw04.UtfBytes': WHATEVER THE INPUT: true; the input reads as it did. -/
def utfBytesSpec : ChangeSpec := { name := "utfBytes", fn := fun _ => fun
  | [d] => { results := [.lit (.bool true)], args := [d] }
  | _ => none }
def utfBytesRow : OpenClaim := { program := "ythloijpnbljpeaa", sum := "83ca86b8502c90207d5fd8cf62b9231f6b0222ec2aabce56a0062ef87a0a1291", func := "tessera/tesseralaw04.UtfBytes", spec := "utfBytes", apart := false }
def UtfBytesSaid : Prop := utfBytesRow.holds Try.pinned (OpenSpec.ofChange utfBytesSpec)

/-- ITS FALSE NEIGHBOUR: 'it returns false'. Refute it at one input. -/
def utfBytesWrong : ChangeSpec := { name := "utfBytes", fn := fun _ => fun
  | [d] => { results := [.lit (.bool false)], args := [d] }
  | _ => none }
def UtfBytesWrongFalsely : Prop := utfBytesRow.holds Try.pinned (OpenSpec.ofChange utfBytesWrong)

/-- 'tesseralaw04.UtfChecks': WHATEVER THE INPUT: true; the input reads as it did. -/
def utfChecksSpec : ChangeSpec := { name := "utfChecks", fn := fun _ => fun
  | [d1, d2, d3] => { results := [.lit (.bool true)], args := [d1, d2, d3] }
  | _ => none }
def utfChecksRow : OpenClaim := { program := "ythloijpnbljpeaa", sum := "83ca86b8502c90207d5fd8cf62b9231f6b0222ec2aabce56a0062ef87a0a1291", func := "tessera/tesseralaw04.UtfChecks", spec := "utfChecks", unfollowed := true, recurses := true, apart := false }
def UtfChecksSaid : Prop := utfChecksRow.holds Try.pinned (OpenSpec.ofChange utfChecksSpec)

/-- ITS FALSE NEIGHBOUR: 'it returns false'. Refute it at one input. -/
def utfChecksWrong : ChangeSpec := { name := "utfChecks", fn := fun _ => fun
  | [d1, d2, d3] => { results := [.lit (.bool false)], args := [d1, d2, d3] }
  | _ => none }
def UtfChecksWrongFalsely : Prop := utfChecksRow.holds Try.pinned (OpenSpec.ofChange utfChecksWrong)

/-- 'tesseralaw04.UtfWhole': WHATEVER THE INPUT: true; the input reads as it did. -/
def utfWholeSpec : ChangeSpec := { name := "utfWhole", fn := fun _ => fun
  | [d] => { results := [.lit (.bool true)], args := [d] }
  | _ => none }
def utfWholeRow : OpenClaim := { program := "ythloijpnbljpeaa", sum := "83ca86b8502c90207d5fd8cf62b9231f6b0222ec2aabce56a0062ef87a0a1291", func := "tessera/tesseralaw04.UtfWhole", spec := "utfWhole", inPlace := ["internal/bytealg.IndexByteString", "internal/abi.NoEscape"], unfollowed := true, recurses := true, apart := false }
def UtfWholeSaid : Prop := utfWholeRow.holds Try.pinned (OpenSpec.ofChange utfWholeSpec)

/-- ITS FALSE NEIGHBOUR: 'it returns false'. Refute it at one input. -/
def utfWholeWrong : ChangeSpec := { name := "utfWhole", fn := fun _ => fun
  | [d] => { results := [.lit (.bool false)], args := [d] }
  | _ => none }
def UtfWholeWrongFalsely : Prop := utfWholeRow.holds Try.pinned (OpenSpec.ofChange utfWholeWrong)

/- THE SECOND FORM. 'bulk': how many values and letters a reading holds, each counted each time it is reached (what is shared counts as often as it is met; a slice's spare places count too). A statement '..UptoSaid' is the law's where the arguments, and the package variables that the reading takes, are together of bulk at most 1048576: NARROWER than '..Said'. Prove '..Said' where nothing that the law and all that it calls make is longer than what came in: it says more and counts as full. Else prove '..UptoSaid'. A law counts once. -/
mutual
def uptoBulk {H : Type} : DataW H → Nat
  | .lit (.string bytes) => bytes.length + 1
  | .lit _ => 1
  | .nil => 1
  | .ptr d => uptoBulk d + 1
  | .slice elems spare => uptoBulkAll elems + uptoBulkAll spare + 1
  | .agg parts => uptoBulkAll parts + 1
  | .iface _ d => uptoBulk d + 1
  | .map entries => uptoBulkEntries entries + 1
  | .held _ => 1
def uptoBulkAll {H : Type} : List (DataW H) → Nat
  | [] => 0
  | d :: r => uptoBulk d + uptoBulkAll r
def uptoBulkEntries {H : Type} : List (Lit × DataW H) → Nat
  | [] => 0
  | x :: r => uptoBulkEntry x + uptoBulkEntries r
def uptoBulkEntry {H : Type} : Lit × DataW H → Nat
  | (.string bytes, d) => bytes.length + uptoBulk d + 1
  | (_, d) => uptoBulk d + 1
 end
def uptoSmall : (H : Type) → List (DataW H) → Bool := fun _ ds => decide (uptoBulkAll ds ≤ 1048576)
def OpenSpec.upto (s : _root_.Go.ChangeSpec) : _root_.Go.OpenSpec := { _root_.Go.OpenSpec.ofChange s with cond := some uptoSmall }

/-- 'tesseralaw04.UtfBytes', WHERE WHAT IT READS IS OF BULK AT MOST 1048576: true; the input reads as it did. -/
def utfBytesUptoRow : OpenClaim := { program := "ythloijpnbljpeaa", sum := "83ca86b8502c90207d5fd8cf62b9231f6b0222ec2aabce56a0062ef87a0a1291", func := "tessera/tesseralaw04.UtfBytes", spec := "utfBytes", apart := false, narrowed := true }
def UtfBytesUptoSaid : Prop := utfBytesUptoRow.holds Try.pinned (OpenSpec.upto utfBytesSpec)

/-- 'tesseralaw04.UtfChecks', WHERE WHAT IT READS IS OF BULK AT MOST 1048576: true; the input reads as it did. -/
def utfChecksUptoRow : OpenClaim := { program := "ythloijpnbljpeaa", sum := "83ca86b8502c90207d5fd8cf62b9231f6b0222ec2aabce56a0062ef87a0a1291", func := "tessera/tesseralaw04.UtfChecks", spec := "utfChecks", unfollowed := true, recurses := true, apart := false, narrowed := true }
def UtfChecksUptoSaid : Prop := utfChecksUptoRow.holds Try.pinned (OpenSpec.upto utfChecksSpec)

/-- 'tesseralaw04.UtfWhole', WHERE WHAT IT READS IS OF BULK AT MOST 1048576: true; the input reads as it did. -/
def utfWholeUptoRow : OpenClaim := { program := "ythloijpnbljpeaa", sum := "83ca86b8502c90207d5fd8cf62b9231f6b0222ec2aabce56a0062ef87a0a1291", func := "tessera/tesseralaw04.UtfWhole", spec := "utfWhole", inPlace := ["internal/bytealg.IndexByteString", "internal/abi.NoEscape"], unfollowed := true, recurses := true, apart := false, narrowed := true }
def UtfWholeUptoSaid : Prop := utfWholeUptoRow.holds Try.pinned (OpenSpec.upto utfWholeSpec)

end Rows
end Go.Proofs.Ythloijpnbljpeaa
