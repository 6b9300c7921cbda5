/- The program's and the document's Scalar, the document's Bytes. -/
import Derived.Test.YtlhcejbimlilaaaGreatDoorTypes
import Derived.Test.YtlhcejbimlilaaaGreatDoorUtfD
set_option linter.unusedVariables false
set_option linter.unusedSimpArgs false
namespace Go.Proofs.YtlhcejbimlilaaaGreatDoor
open Go.RowKit Go.Tk
end Go.Proofs.YtlhcejbimlilaaaGreatDoor
