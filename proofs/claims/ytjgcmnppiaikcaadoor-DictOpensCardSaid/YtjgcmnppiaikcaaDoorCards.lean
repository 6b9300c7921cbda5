/-
  DERIVED. GIVEN WITH THE SEED: THE CARDS: each row of YtjgcmnppiaikcaaDoorRows.lean that lists a variable, with what it lists TIED to the program's text (the seventh form; the later family's looks); each row that meets fmt, with fmt's text TOLD by the authors' own Lean function (tested against real Go, not proved from fmt's source: count such statements apart). THE CARD IS WHAT COUNTS. Prove the row's statement (the work); the ties are given (YtjgcmnppiaikcaaDoorTie.lean); close each card by the builder's one call (the guide's Derived/Test/ToyasCard.lean, 'card_holds'). Laid BY PROGRAM, IN A SANDBOX (cutbox-door.mjs). By AI agents, Wed Nov 11 2026. No macro, syntax, notation, axiom, sorry.
-/
import Derived.Test.YtjgcmnppiaikcaaDoorRows
import GoSem.ClaimSeven
namespace Go.Proofs.YtjgcmnppiaikcaaDoor
namespace Rows

/-- THE TIED CARD OF 'tesseralaw16.DictOpens'. -/
def dictOpensCard : Claim7 := { stood := { row := dictOpensRow, standIns := [], harness := (true, "4762d9d2d7f261d007cdad252547cd35266e8882b542a2859bf3862b9a5854d6"), looks := true }, kinds := [], alts := [], laidByText := true, laidKinds := [.handle], laidTests := true, laidLooks := .later }
def DictOpensCardSaid : Prop := Claim7.holds Tryd.pinned (.plain (OpenSpec.ofChange dictOpensSpec)) dictOpensCard

/-- THE SECOND FORM's CARD OF 'tesseralaw16.DictOpens'. -/
def dictOpensUptoCard : Claim7 := { stood := { row := dictOpensUptoRow, standIns := [], harness := (true, "4762d9d2d7f261d007cdad252547cd35266e8882b542a2859bf3862b9a5854d6"), looks := true }, kinds := [], alts := [], laidByText := true, laidKinds := [.handle], laidTests := true, laidLooks := .later }
def DictOpensUptoCardSaid : Prop := Claim7.holds Tryd.pinned (.plain (OpenSpec.upto dictOpensSpec)) dictOpensUptoCard
end Rows
end Go.Proofs.YtjgcmnppiaikcaaDoor
