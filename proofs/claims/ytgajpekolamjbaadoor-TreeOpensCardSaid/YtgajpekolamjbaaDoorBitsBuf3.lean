/- BitsBuf BitsBuf2 BitsBuf3, laid as one. -/
import Derived.Test.YtgajpekolamjbaaDoorCpK
import Derived.Test.YtgajpekolamjbaaDoorTypes
import Derived.Test.YtgajpekolamjbaaDoorReg
import Derived.BigQuiet
import Derived.Test.YtgajpekolamjbaaDoorBitsNum
set_option linter.unusedVariables false
set_option linter.unusedSimpArgs false
/- Buffers: what their calls do. -/
namespace Go.Proofs.YtgajpekolamjbaaDoor
open Go.RowKit Go.Tk
/-- What a buffer that takes so many bytes has behind some more. -/
def putF (most : Int) (st : List Int × Bool) (ns : List Int) : List Int × Bool :=
  if st.2 = true then st else if most - st.1.length < ns.length then (st.1, true) else (st.1 ++ ns, false)
/-- The blocks that a buffer holds. -/
def Fp (b : Nat) (v : Value) (k : Nat) : Prop := k = b ∨ v.ownBlock = some k

end Go.Proofs.YtgajpekolamjbaaDoor
/- Buffers: Byte, Varint, Fixed, Len, Bytes, New; the reference's. -/
namespace Go.Proofs.YtgajpekolamjbaaDoor
open Go.RowKit Go.Tk
end Go.Proofs.YtgajpekolamjbaaDoor
/- Buffers: Fixed; the reference's Varint and Fixed. -/
namespace Go.Proofs.YtgajpekolamjbaaDoor
open Go.RowKit Go.Tk
/-- A row of bytes, new. -/
def NewRow (w : World) (zs : List Int) (e : Ending) (w' : World) : Prop := ∃ v', e = .returned v' ∧ Ow .u8 5 w.heap.size w' v' zs ∧ Kept (fun _ => False) w w'
end Go.Proofs.YtgajpekolamjbaaDoor
