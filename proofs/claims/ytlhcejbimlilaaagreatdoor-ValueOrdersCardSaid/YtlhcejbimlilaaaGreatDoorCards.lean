/-
  DERIVED. GIVEN WITH THE SEED: THE CARDS: each row of YtlhcejbimlilaaaGreatDoorRows.lean that lists a variable, with what it lists TIED to the program's text (the seventh form; the later family's looks); each row that meets fmt, with fmt's text TOLD by the authors' own Lean function (tested against real Go, not proved from fmt's source: count such statements apart). THE CARD IS WHAT COUNTS. Prove the row's statement (the work); the ties are given (YtlhcejbimlilaaaGreatDoorTie.lean); close each card by the builder's one call (the guide's Derived/Test/ToyasCard.lean, 'card_holds'). Laid BY PROGRAM, IN A SANDBOX (cutbox-door.mjs). By AI agents, Wed Nov 11 2026. No macro, syntax, notation, axiom, sorry.
-/
import Derived.Test.YtlhcejbimlilaaaGreatDoorRows
import GoSem.ClaimSeven
namespace Go.Proofs.YtlhcejbimlilaaaGreatDoor
namespace Rows

/-- THE TIED CARD OF 'tesseralaw08.ValueChecks'. -/
def valueChecksCard : Claim7 := { stood := { row := valueChecksRow, standIns := [], harness := (true, "cc8de610aff2b24d9dc63a3e853ee59ede9a682919152f948194ac2fbd841f6e"), looks := true }, kinds := [], alts := [], laidByText := true, laidKinds := [.data, .data, .data, .data, .sentinel, .sentinel, .pinned], laidTests := true, laidLooks := .later }
def ValueChecksCardSaid : Prop := Claim7.holds Tryz.pinned (.plain (OpenSpec.ofChange valueChecksSpec)) valueChecksCard

/-- THE TIED CARD OF 'tesseralaw08.ValueCanons'. -/
def valueCanonsCard : Claim7 := { stood := { row := valueCanonsRow, standIns := [], harness := (true, "cc8de610aff2b24d9dc63a3e853ee59ede9a682919152f948194ac2fbd841f6e"), looks := true }, kinds := [], alts := [], laidByText := true, laidKinds := [.data, .data, .data, .data, .sentinel, .sentinel, .pinned], laidTests := true, laidLooks := .later }
def ValueCanonsCardSaid : Prop := Claim7.holds Tryz.pinned (.plain (OpenSpec.ofChange valueCanonsSpec)) valueCanonsCard

/-- THE TIED CARD OF 'tesseralaw08.ValueOrders'. -/
def valueOrdersCard : Claim7 := { stood := { row := valueOrdersRow, standIns := [], harness := (true, "cc8de610aff2b24d9dc63a3e853ee59ede9a682919152f948194ac2fbd841f6e"), looks := true }, kinds := [], alts := [], laidByText := true, laidKinds := [.data, .data, .data, .data, .sentinel, .sentinel, .pinned], laidTests := true, laidLooks := .later }
def ValueOrdersCardSaid : Prop := Claim7.holds Tryz.pinned (.plain (OpenSpec.ofChange valueOrdersSpec)) valueOrdersCard

/-- THE TIED CARD OF 'tesseralaw08.ValueRanks'. -/
def valueRanksCard : Claim7 := { stood := { row := valueRanksRow, standIns := [], harness := (true, "cc8de610aff2b24d9dc63a3e853ee59ede9a682919152f948194ac2fbd841f6e"), looks := true }, kinds := [], alts := [], laidByText := true, laidKinds := [.data, .data, .data, .data, .sentinel, .sentinel, .pinned], laidTests := true, laidLooks := .later }
def ValueRanksCardSaid : Prop := Claim7.holds Tryz.pinned (.plain (OpenSpec.ofChange valueRanksSpec)) valueRanksCard

/-- THE TIED CARD OF 'tesseralaw08.ValueDigits'. -/
def valueDigitsCard : Claim7 := { stood := { row := valueDigitsRow, standIns := [], harness := (true, "cc8de610aff2b24d9dc63a3e853ee59ede9a682919152f948194ac2fbd841f6e"), looks := true }, kinds := [], alts := [], laidByText := true, laidKinds := [.data, .data, .data, .data, .sentinel, .sentinel, .pinned], laidTests := true, laidLooks := .later }
def ValueDigitsCardSaid : Prop := Claim7.holds Tryz.pinned (.plain (OpenSpec.ofChange valueDigitsSpec)) valueDigitsCard

/-- THE TIED CARD OF 'tesseralaw08.ValueRanges'. -/
def valueRangesCard : Claim7 := { stood := { row := valueRangesRow, standIns := [], harness := (true, "cc8de610aff2b24d9dc63a3e853ee59ede9a682919152f948194ac2fbd841f6e"), looks := true }, kinds := [], alts := [], laidByText := true, laidKinds := [.data, .data, .data, .data, .sentinel, .sentinel, .pinned], laidTests := true, laidLooks := .later }
def ValueRangesCardSaid : Prop := Claim7.holds Tryz.pinned (.plain (OpenSpec.ofChange valueRangesSpec)) valueRangesCard

/-- THE TIED CARD OF 'tesseralaw08.ValueSettles'. -/
def valueSettlesCard : Claim7 := { stood := { row := valueSettlesRow, standIns := [], harness := (true, "cc8de610aff2b24d9dc63a3e853ee59ede9a682919152f948194ac2fbd841f6e"), looks := true }, kinds := [], alts := [], laidByText := true, laidKinds := [.data, .data, .data, .data, .sentinel, .sentinel, .pinned], laidTests := true, laidLooks := .later }
def ValueSettlesCardSaid : Prop := Claim7.holds Tryz.pinned (.plain (OpenSpec.ofChange valueSettlesSpec)) valueSettlesCard

/-- THE SECOND FORM's CARD OF 'tesseralaw08.ValueChecks'. -/
def valueChecksUptoCard : Claim7 := { stood := { row := valueChecksUptoRow, standIns := [], harness := (true, "cc8de610aff2b24d9dc63a3e853ee59ede9a682919152f948194ac2fbd841f6e"), looks := true }, kinds := [], alts := [], laidByText := true, laidKinds := [.data, .data, .data, .data, .sentinel, .sentinel, .pinned], laidTests := true, laidLooks := .later }
def ValueChecksUptoCardSaid : Prop := Claim7.holds Tryz.pinned (.plain (OpenSpec.upto valueChecksSpec)) valueChecksUptoCard

/-- THE SECOND FORM's CARD OF 'tesseralaw08.ValueCanons'. -/
def valueCanonsUptoCard : Claim7 := { stood := { row := valueCanonsUptoRow, standIns := [], harness := (true, "cc8de610aff2b24d9dc63a3e853ee59ede9a682919152f948194ac2fbd841f6e"), looks := true }, kinds := [], alts := [], laidByText := true, laidKinds := [.data, .data, .data, .data, .sentinel, .sentinel, .pinned], laidTests := true, laidLooks := .later }
def ValueCanonsUptoCardSaid : Prop := Claim7.holds Tryz.pinned (.plain (OpenSpec.upto valueCanonsSpec)) valueCanonsUptoCard

/-- THE SECOND FORM's CARD OF 'tesseralaw08.ValueOrders'. -/
def valueOrdersUptoCard : Claim7 := { stood := { row := valueOrdersUptoRow, standIns := [], harness := (true, "cc8de610aff2b24d9dc63a3e853ee59ede9a682919152f948194ac2fbd841f6e"), looks := true }, kinds := [], alts := [], laidByText := true, laidKinds := [.data, .data, .data, .data, .sentinel, .sentinel, .pinned], laidTests := true, laidLooks := .later }
def ValueOrdersUptoCardSaid : Prop := Claim7.holds Tryz.pinned (.plain (OpenSpec.upto valueOrdersSpec)) valueOrdersUptoCard

/-- THE SECOND FORM's CARD OF 'tesseralaw08.ValueRanks'. -/
def valueRanksUptoCard : Claim7 := { stood := { row := valueRanksUptoRow, standIns := [], harness := (true, "cc8de610aff2b24d9dc63a3e853ee59ede9a682919152f948194ac2fbd841f6e"), looks := true }, kinds := [], alts := [], laidByText := true, laidKinds := [.data, .data, .data, .data, .sentinel, .sentinel, .pinned], laidTests := true, laidLooks := .later }
def ValueRanksUptoCardSaid : Prop := Claim7.holds Tryz.pinned (.plain (OpenSpec.upto valueRanksSpec)) valueRanksUptoCard

/-- THE SECOND FORM's CARD OF 'tesseralaw08.ValueDigits'. -/
def valueDigitsUptoCard : Claim7 := { stood := { row := valueDigitsUptoRow, standIns := [], harness := (true, "cc8de610aff2b24d9dc63a3e853ee59ede9a682919152f948194ac2fbd841f6e"), looks := true }, kinds := [], alts := [], laidByText := true, laidKinds := [.data, .data, .data, .data, .sentinel, .sentinel, .pinned], laidTests := true, laidLooks := .later }
def ValueDigitsUptoCardSaid : Prop := Claim7.holds Tryz.pinned (.plain (OpenSpec.upto valueDigitsSpec)) valueDigitsUptoCard

/-- THE SECOND FORM's CARD OF 'tesseralaw08.ValueRanges'. -/
def valueRangesUptoCard : Claim7 := { stood := { row := valueRangesUptoRow, standIns := [], harness := (true, "cc8de610aff2b24d9dc63a3e853ee59ede9a682919152f948194ac2fbd841f6e"), looks := true }, kinds := [], alts := [], laidByText := true, laidKinds := [.data, .data, .data, .data, .sentinel, .sentinel, .pinned], laidTests := true, laidLooks := .later }
def ValueRangesUptoCardSaid : Prop := Claim7.holds Tryz.pinned (.plain (OpenSpec.upto valueRangesSpec)) valueRangesUptoCard

/-- THE SECOND FORM's CARD OF 'tesseralaw08.ValueSettles'. -/
def valueSettlesUptoCard : Claim7 := { stood := { row := valueSettlesUptoRow, standIns := [], harness := (true, "cc8de610aff2b24d9dc63a3e853ee59ede9a682919152f948194ac2fbd841f6e"), looks := true }, kinds := [], alts := [], laidByText := true, laidKinds := [.data, .data, .data, .data, .sentinel, .sentinel, .pinned], laidTests := true, laidLooks := .later }
def ValueSettlesUptoCardSaid : Prop := Claim7.holds Tryz.pinned (.plain (OpenSpec.upto valueSettlesSpec)) valueSettlesUptoCard
end Rows
end Go.Proofs.YtlhcejbimlilaaaGreatDoor
