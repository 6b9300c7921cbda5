/- The document's until and begins. -/
import Derived.Test.YtlhcejbimlilaaaGreatDoorTypes
import Derived.Test.YtlhcejbimlilaaaGreatDoorUtfD
import Derived.Test.YtlhcejbimlilaaaGreatDoorReg
import Derived.Test.YtlhcejbimlilaaaGreatDoorIriC
import Derived.BigQuiet
import Derived.WalkSpells
set_option linter.unusedVariables false
set_option linter.unusedSimpArgs false
namespace Go.Tk
/-- How many bytes there are ahead of the first that is asked for. -/
def unt (q : UInt8 → Bool) : List UInt8 → Nat
  | [] => 0
  | b :: l => if q b then 0 else unt q l + 1
/-- Is it one of the signs? -/
def among (signs : List UInt8) (b : UInt8) : Bool := signs.contains b
end Go.Tk
namespace Go.Proofs.YtlhcejbimlilaaaGreatDoor
open Go.RowKit Go.Tk
end Go.Proofs.YtlhcejbimlilaaaGreatDoor
