/- escape: the document's. -/
import Derived.Test.YthloijpnbljpeaaUtfHr
set_option linter.unusedVariables false
set_option linter.unusedSimpArgs false
namespace Go.Proofs.Ythloijpnbljpeaa
open Go.RowKit Go.Tk
end Go.Proofs.Ythloijpnbljpeaa
