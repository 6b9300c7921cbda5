/- tessera/tesseralaw02.sameBytes: are two slices the same, number by number? -/
import Derived.Test.YtgajpekolamjbaaProg
import Derived.Test.YtgajpekolamjbaaBase
import Derived.Test.YtgajpekolamjbaaReg
import Derived.BigQuiet
namespace Go.Proofs.Ytgajpekolamjbaa
open Go.RowKit Go.Tk
end Go.Proofs.Ytgajpekolamjbaa
