/- Where a slice that came in lies. -/
import Derived.Test.YtgkbkkhlnidigaaOpen
namespace Go.Tk
open Go Go.RowKit Go.ChangeShapes Go.WideShapes Go.ChangeAt
theorem has_block {P : Program} {W : World} {r : Reach} {b n : Nat} {e : TypeId} {a : Addr} (h : W.has P r b a e n) : a.block < W.heap.size ∧ a.spot = none := by
  obtain ⟨_, hs, row, cells, h, _⟩ := h
  refine ⟨?_, hs⟩
  unfold World.shape? at h
  split at h
  · rename_i hh; exact (Array.getElem?_eq_some_iff.1 hh).1
  · cases h
theorem ok_block {P : Program} {W : World} {r : Reach} {b n c : Nat} {t e : TypeId} {a : Option Addr} (hu : P.underlying t = some (.slice e)) (h : Value.okWide P W r b t (.slice a n c)) : ∀ x, a = some x → x.block < W.heap.size := by
  intro x hx
  subst hx
  simp only [Value.okWide, hu, Cell.okWide, Cell.ok] at h
  exact (has_block h.2.2).1
end Go.Tk
