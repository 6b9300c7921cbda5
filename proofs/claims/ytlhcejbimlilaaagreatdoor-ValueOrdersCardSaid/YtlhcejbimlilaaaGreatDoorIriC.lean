/- What Clean does with a path: plain. -/
import Derived.WalkKit
import Derived.Lib.Strings
import Derived.Lib.Bytealg
set_option linter.unusedVariables false
set_option linter.unusedSimpArgs false
namespace Go.Tk
open Go
end Go.Tk
