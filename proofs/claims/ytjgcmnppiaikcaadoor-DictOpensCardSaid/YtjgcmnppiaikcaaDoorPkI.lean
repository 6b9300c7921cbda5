/- All of packed numbers: the iterator. -/
import Derived.Test.YtjgcmnppiaikcaaDoorPkQ
import Derived.RangeFuncNested
import Derived.RangeFuncBound
import Derived.RangeFuncCalls
import Derived.RangeFuncLeaves
import Derived.RangeFuncBox
import Derived.Shelf.Abstract
import Derived.Shelf.RegionOpen
import Derived.WalkKit
import Derived.OwnWalkIn
import Derived.TacticsInMore
import Derived.LoopNIn
import Derived.LoopIn
import Derived.Maps.AppendAt
import Derived.Sort.QuietTacIn
set_option linter.unusedVariables false
set_option linter.unusedSimpArgs false
namespace Go.Tk
open Go Go.RowKit
theorem SlI.sameB {k : IntKind} {w w' : World} {a : Option Addr} {L c : Nat} {zs : List Int} (h : SlI k w a L c zs) (hs : ∀ j, j < w.heap.size → w'.heap[j]? = w.heap[j]?) : SlI k w' a L c zs :=
  ⟨h.len, h.le, h.max, fun i hi => by
    obtain ⟨b, p, rfl, hc⟩ := h.cell i hi
    exact ⟨b, p, rfl, (World.cell?_of_block (a := ⟨b, p + i, none⟩) (hs b (block_lt_of_cell hc))).trans hc⟩⟩
theorem size_of_same {w0 W : World} (h : ∀ j, j < w0.heap.size → W.heap[j]? = w0.heap[j]?) : w0.heap.size ≤ W.heap.size := by
  by_cases h0 : w0.heap.size = 0
  · omega
  · have := h (w0.heap.size - 1) (by omega)
    rw [show w0.heap[w0.heap.size - 1]? = some (w0.heap[w0.heap.size - 1]'(by omega)) from Array.getElem?_eq_getElem (by omega)] at this
    have := (Array.getElem?_eq_some_iff.1 this).1
    omega
end Go.Tk
namespace Go.Proofs.YtjgcmnppiaikcaaDoor
open Go.RowKit Go.Shelf Go.Tk
attribute [local go_sem] Oper.semAt_some
def pkCs (a : Option Addr) (L c m d : Nat) : Array Value := #[.slice a L c, .int .i64 (m : Nat), .int .i64 (d : Nat)]
def encP (zs : List Int) (d : Nat) (x : Nat) : Array Value := #[.int .i64 (x : Nat), .int .u64 (numT zs d x d : Nat)]
/-- What stood below a bound stands, and one box. -/
def KpP (w0 : World) (g : Nat) (A B : World) : Prop := ∀ j, (j < w0.heap.size ∨ j = g) → B.heap[j]? = A.heap[j]?
end Go.Proofs.YtjgcmnppiaikcaaDoor
