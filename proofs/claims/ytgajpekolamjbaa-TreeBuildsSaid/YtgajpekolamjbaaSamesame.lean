/- tessera/tesseralaw01.Same: are two slices the same, number by number? -/
import Derived.Test.YtgajpekolamjbaaProg
import Derived.Test.YtgajpekolamjbaaBase
import Derived.Test.YtgajpekolamjbaaReg
import Derived.BigQuiet
set_option linter.unusedVariables false
set_option linter.unusedSimpArgs false
namespace Go.Proofs.Ytgajpekolamjbaa
open Go.RowKit Go.Tk
end Go.Proofs.Ytgajpekolamjbaa
