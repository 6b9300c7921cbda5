/- tessera/tesseralaw01.Same: are two slices the same, number by number? -/
import Derived.Test.YtjgcmnppiaikcaaProg
import Derived.Test.YtjgcmnppiaikcaaBase
import Derived.Test.YtjgcmnppiaikcaaReg
import Derived.BigQuiet
set_option linter.unusedVariables false
set_option linter.unusedSimpArgs false
namespace Go.Proofs.Ytjgcmnppiaikcaa
open Go.RowKit Go.Tk
end Go.Proofs.Ytjgcmnppiaikcaa
