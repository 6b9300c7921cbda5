/-
  DERIVED. GIVEN WITH THE SEED: THE CARDS: each row of YtpphjiialgmidaaDoorRows.lean that lists a variable, with what it lists TIED to the program's text (the seventh form; the later family's looks); each row that meets fmt, with fmt's text TOLD by the authors' own Lean function (tested against real Go, not proved from fmt's source: count such statements apart). THE CARD IS WHAT COUNTS. Prove the row's statement (the work); the ties are given (YtpphjiialgmidaaDoorTie.lean); close each card by the builder's one call (the guide's Derived/Test/ToyasCard.lean, 'card_holds'). Laid BY PROGRAM, IN A SANDBOX (cutbox-door.mjs). By AI agents, Wed Nov 11 2026. No macro, syntax, notation, axiom, sorry.
-/
import Derived.Test.YtpphjiialgmidaaDoorRows
import GoSem.ClaimSeven
namespace Go.Proofs.YtpphjiialgmidaaDoor
namespace Rows

/-- THE TIED CARD OF 'tesseralaw02.RankOpens'. -/
def rankOpensCard : Claim7 := { stood := { row := rankOpensRow, standIns := [], harness := (true, "16760937fb69db9feb74a04f0519b2b250760a163cda67de2292e5cf7c27f503"), looks := true }, kinds := [], alts := [], laidByText := true, laidKinds := [.handle], laidTests := true, laidLooks := .later }
def RankOpensCardSaid : Prop := Claim7.holds Tryd.pinned (.plain (OpenSpec.ofChange rankOpensSpec)) rankOpensCard

/-- THE SECOND FORM's CARD OF 'tesseralaw02.RankOpens'. -/
def rankOpensUptoCard : Claim7 := { stood := { row := rankOpensUptoRow, standIns := [], harness := (true, "16760937fb69db9feb74a04f0519b2b250760a163cda67de2292e5cf7c27f503"), looks := true }, kinds := [], alts := [], laidByText := true, laidKinds := [.handle], laidTests := true, laidLooks := .later }
def RankOpensUptoCardSaid : Prop := Claim7.holds Tryd.pinned (.plain (OpenSpec.upto rankOpensSpec)) rankOpensUptoCard
end Rows
end Go.Proofs.YtpphjiialgmidaaDoor
