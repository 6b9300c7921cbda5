/- tessera/tesseralaw01.Same: are two slices the same, number by number? -/
import Derived.Test.YtjgcmnppiaikcaaDoorProg
import Derived.Test.YtjgcmnppiaikcaaDoorBase
import Derived.Test.YtjgcmnppiaikcaaDoorReg
import Derived.BigQuiet
set_option linter.unusedVariables false
set_option linter.unusedSimpArgs false
namespace Go.Proofs.YtjgcmnppiaikcaaDoor
open Go.RowKit Go.Tk
end Go.Proofs.YtjgcmnppiaikcaaDoor
