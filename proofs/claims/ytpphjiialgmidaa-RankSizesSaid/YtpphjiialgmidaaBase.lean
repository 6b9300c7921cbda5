/- Small laws used by all texts of this seat. -/
import Derived.WalkKit
import Derived.Deep.Draws
namespace Go.Tk
open Go Go.RowKit
theorem below_drewN {B : Nat} {a w : World} (h : Below B a w) (n : Nat) : Below B a (w.drewN n) := ⟨h.os, h.tape, h.output, h.size, h.block⟩
end Go.Tk
