/-
  DERIVED. GIVEN WITH THE SEED: THE CARDS: each row of YthloijpnbljpeaaDoorRows.lean that lists a variable, with what it lists TIED to the program's text (the seventh form; the later family's looks); each row that meets fmt, with fmt's text TOLD by the authors' own Lean function (tested against real Go, not proved from fmt's source: count such statements apart). THE CARD IS WHAT COUNTS. Prove the row's statement (the work); the ties are given (YthloijpnbljpeaaDoorTie.lean); close each card by the builder's one call (the guide's Derived/Test/ToyasCard.lean, 'card_holds'). Laid BY PROGRAM, IN A SANDBOX (cutbox-door.mjs). By AI agents, Wed Nov 11 2026. No macro, syntax, notation, axiom, sorry.
-/
import Derived.Test.YthloijpnbljpeaaDoorRows
import GoSem.ClaimSeven
namespace Go.Proofs.YthloijpnbljpeaaDoor
namespace Rows

/-- THE TIED CARD OF 'tesseralaw04.UtfScans'. -/
def utfScansCard : Claim7 := { stood := { row := utfScansRow, standIns := [], harness := (true, "d5d9fb96b86380c48a3a5dbd3cd6880d193afe5f6b4131a77450be25ec429627"), looks := true }, kinds := [], alts := [], laidByText := true, laidKinds := [.handle], laidTests := true, laidLooks := .later }
def UtfScansCardSaid : Prop := Claim7.holds Tryd.pinned (.plain (OpenSpec.ofChange utfScansSpec)) utfScansCard

/-- THE TIED CARD OF 'tesseralaw04.UtfEscapes'. -/
def utfEscapesCard : Claim7 := { stood := { row := utfEscapesRow, standIns := [], harness := (true, "d5d9fb96b86380c48a3a5dbd3cd6880d193afe5f6b4131a77450be25ec429627"), looks := true }, kinds := [], alts := [], laidByText := true, laidKinds := [.handle], laidTests := true, laidLooks := .later }
def UtfEscapesCardSaid : Prop := Claim7.holds Tryd.pinned (.plain (OpenSpec.ofChange utfEscapesSpec)) utfEscapesCard

/-- THE TIED CARD OF 'tesseralaw04.UtfUnescapes'. -/
def utfUnescapesCard : Claim7 := { stood := { row := utfUnescapesRow, standIns := [], harness := (true, "d5d9fb96b86380c48a3a5dbd3cd6880d193afe5f6b4131a77450be25ec429627"), looks := true }, kinds := [], alts := [], laidByText := true, laidKinds := [.handle], laidTests := true, laidLooks := .later }
def UtfUnescapesCardSaid : Prop := Claim7.holds Tryd.pinned (.plain (OpenSpec.ofChange utfUnescapesSpec)) utfUnescapesCard

/-- THE TIED CARD OF 'tesseralaw04.UtfBack'. -/
def utfBackCard : Claim7 := { stood := { row := utfBackRow, standIns := [], harness := (true, "d5d9fb96b86380c48a3a5dbd3cd6880d193afe5f6b4131a77450be25ec429627"), looks := true }, kinds := [], alts := [], laidByText := true, laidKinds := [.handle], laidTests := true, laidLooks := .later }
def UtfBackCardSaid : Prop := Claim7.holds Tryd.pinned (.plain (OpenSpec.ofChange utfBackSpec)) utfBackCard

/-- THE TIED CARD OF 'tesseralaw04.UtfJoins'. -/
def utfJoinsCard : Claim7 := { stood := { row := utfJoinsRow, standIns := [], harness := (true, "d5d9fb96b86380c48a3a5dbd3cd6880d193afe5f6b4131a77450be25ec429627"), looks := true }, kinds := [], alts := [], laidByText := true, laidKinds := [.handle], laidTests := true, laidLooks := .later }
def UtfJoinsCardSaid : Prop := Claim7.holds Tryd.pinned (.plain (OpenSpec.ofChange utfJoinsSpec)) utfJoinsCard

/-- THE TIED CARD OF 'tesseralaw04.UtfPieces'. -/
def utfPiecesCard : Claim7 := { stood := { row := utfPiecesRow, standIns := [], harness := (true, "d5d9fb96b86380c48a3a5dbd3cd6880d193afe5f6b4131a77450be25ec429627"), looks := true }, kinds := [], alts := [], laidByText := true, laidKinds := [.handle], laidTests := true, laidLooks := .later }
def UtfPiecesCardSaid : Prop := Claim7.holds Tryd.pinned (.plain (OpenSpec.ofChange utfPiecesSpec)) utfPiecesCard

/-- THE SECOND FORM's CARD OF 'tesseralaw04.UtfScans'. -/
def utfScansUptoCard : Claim7 := { stood := { row := utfScansUptoRow, standIns := [], harness := (true, "d5d9fb96b86380c48a3a5dbd3cd6880d193afe5f6b4131a77450be25ec429627"), looks := true }, kinds := [], alts := [], laidByText := true, laidKinds := [.handle], laidTests := true, laidLooks := .later }
def UtfScansUptoCardSaid : Prop := Claim7.holds Tryd.pinned (.plain (OpenSpec.upto utfScansSpec)) utfScansUptoCard

/-- THE SECOND FORM's CARD OF 'tesseralaw04.UtfEscapes'. -/
def utfEscapesUptoCard : Claim7 := { stood := { row := utfEscapesUptoRow, standIns := [], harness := (true, "d5d9fb96b86380c48a3a5dbd3cd6880d193afe5f6b4131a77450be25ec429627"), looks := true }, kinds := [], alts := [], laidByText := true, laidKinds := [.handle], laidTests := true, laidLooks := .later }
def UtfEscapesUptoCardSaid : Prop := Claim7.holds Tryd.pinned (.plain (OpenSpec.upto utfEscapesSpec)) utfEscapesUptoCard

/-- THE SECOND FORM's CARD OF 'tesseralaw04.UtfUnescapes'. -/
def utfUnescapesUptoCard : Claim7 := { stood := { row := utfUnescapesUptoRow, standIns := [], harness := (true, "d5d9fb96b86380c48a3a5dbd3cd6880d193afe5f6b4131a77450be25ec429627"), looks := true }, kinds := [], alts := [], laidByText := true, laidKinds := [.handle], laidTests := true, laidLooks := .later }
def UtfUnescapesUptoCardSaid : Prop := Claim7.holds Tryd.pinned (.plain (OpenSpec.upto utfUnescapesSpec)) utfUnescapesUptoCard

/-- THE SECOND FORM's CARD OF 'tesseralaw04.UtfBack'. -/
def utfBackUptoCard : Claim7 := { stood := { row := utfBackUptoRow, standIns := [], harness := (true, "d5d9fb96b86380c48a3a5dbd3cd6880d193afe5f6b4131a77450be25ec429627"), looks := true }, kinds := [], alts := [], laidByText := true, laidKinds := [.handle], laidTests := true, laidLooks := .later }
def UtfBackUptoCardSaid : Prop := Claim7.holds Tryd.pinned (.plain (OpenSpec.upto utfBackSpec)) utfBackUptoCard

/-- THE SECOND FORM's CARD OF 'tesseralaw04.UtfJoins'. -/
def utfJoinsUptoCard : Claim7 := { stood := { row := utfJoinsUptoRow, standIns := [], harness := (true, "d5d9fb96b86380c48a3a5dbd3cd6880d193afe5f6b4131a77450be25ec429627"), looks := true }, kinds := [], alts := [], laidByText := true, laidKinds := [.handle], laidTests := true, laidLooks := .later }
def UtfJoinsUptoCardSaid : Prop := Claim7.holds Tryd.pinned (.plain (OpenSpec.upto utfJoinsSpec)) utfJoinsUptoCard

/-- THE SECOND FORM's CARD OF 'tesseralaw04.UtfPieces'. -/
def utfPiecesUptoCard : Claim7 := { stood := { row := utfPiecesUptoRow, standIns := [], harness := (true, "d5d9fb96b86380c48a3a5dbd3cd6880d193afe5f6b4131a77450be25ec429627"), looks := true }, kinds := [], alts := [], laidByText := true, laidKinds := [.handle], laidTests := true, laidLooks := .later }
def UtfPiecesUptoCardSaid : Prop := Claim7.holds Tryd.pinned (.plain (OpenSpec.upto utfPiecesSpec)) utfPiecesUptoCard
end Rows
end Go.Proofs.YthloijpnbljpeaaDoor
