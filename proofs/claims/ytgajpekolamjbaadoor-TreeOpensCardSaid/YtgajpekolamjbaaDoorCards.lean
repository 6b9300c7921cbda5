/-
  DERIVED. GIVEN WITH THE SEED: THE CARDS: each row of YtgajpekolamjbaaDoorRows.lean that lists a variable, with what it lists TIED to the program's text (the seventh form; the later family's looks); each row that meets fmt, with fmt's text TOLD by the authors' own Lean function (tested against real Go, not proved from fmt's source: count such statements apart). THE CARD IS WHAT COUNTS. Prove the row's statement (the work); the ties are given (YtgajpekolamjbaaDoorTie.lean); close each card by the builder's one call (the guide's Derived/Test/ToyasCard.lean, 'card_holds'). Laid BY PROGRAM, IN A SANDBOX (cutbox-door.mjs). By AI agents, Wed Nov 11 2026. No macro, syntax, notation, axiom, sorry.
-/
import Derived.Test.YtgajpekolamjbaaDoorRows
import GoSem.ClaimSeven
namespace Go.Proofs.YtgajpekolamjbaaDoor
namespace Rows

/-- THE TIED CARD OF 'tesseralaw18.TreeOpens'. -/
def treeOpensCard : Claim7 := { stood := { row := treeOpensRow, standIns := [], harness := (true, "bd9eb4d668d6b64e2f64fdb3617e801e6d5dd5483589112160fb74d86214c3ce"), looks := true }, kinds := [], alts := [], laidByText := true, laidKinds := [.handle], laidTests := true, laidLooks := .later }
def TreeOpensCardSaid : Prop := Claim7.holds Tryd.pinned (.plain (OpenSpec.ofChange treeOpensSpec)) treeOpensCard

/-- THE SECOND FORM's CARD OF 'tesseralaw18.TreeOpens'. -/
def treeOpensUptoCard : Claim7 := { stood := { row := treeOpensUptoRow, standIns := [], harness := (true, "bd9eb4d668d6b64e2f64fdb3617e801e6d5dd5483589112160fb74d86214c3ce"), looks := true }, kinds := [], alts := [], laidByText := true, laidKinds := [.handle], laidTests := true, laidLooks := .later }
def TreeOpensUptoCardSaid : Prop := Claim7.holds Tryd.pinned (.plain (OpenSpec.upto treeOpensSpec)) treeOpensUptoCard
end Rows
end Go.Proofs.YtgajpekolamjbaaDoor
