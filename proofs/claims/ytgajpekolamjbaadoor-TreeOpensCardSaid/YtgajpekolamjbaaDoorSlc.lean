/- Slices of slices of integers that read. -/
import Derived.Test.YtgajpekolamjbaaDoorCpK
import Derived.Test.YtgajpekolamjbaaDoorOpen2
set_option linter.unusedVariables false
set_option linter.unusedSimpArgs false
namespace Go.Tk
open Go Go.RowKit
theorem SlI.cut {k : IntKind} {w : World} {a : Option Addr} {n cap : Nat} {zs : List Int} (h : SlI k w a n cap zs) (i m : Nat) (hm : i + m ≤ n) : SlI k w (if cap = i then a else Option.map (fun x => x.add i) a) (i + m - i) (cap - i) ((zs.drop i).take m) := by
  have hl := h.len
  have hle := h.le
  have hmx := h.max
  refine ⟨by simp [hl]; omega, by omega, by omega, fun j hj => ?_⟩
  obtain ⟨b, o, e, hc⟩ := h.cell (i + j) (by omega)
  subst e
  rw [if_neg (by omega)]
  refine ⟨b, o + i, by simp [Addr.add_lit], ?_⟩
  rw [Nat.add_assoc, hc]
  simp [List.getElem?_take, show j < m by omega]
theorem SlI.tail {k : IntKind} {w : World} {a : Option Addr} {n cap : Nat} {zs : List Int} (h : SlI k w a n cap zs) (i : Nat) (hi : i ≤ n) : SlI k w (if cap = i then a else Option.map (fun x => x.add i) a) (n - i) (cap - i) (zs.drop i) := by
  have hl := h.len
  have := SlI.cut h i (n - i) (by omega)
  rw [show i + (n - i) - i = n - i by omega, List.take_of_length_le (by simp; omega)] at this
  exact this
/-- An empty row of the call's own. -/
theorem ow_empty (k : IntKind) (e : TypeId) (base : Nat) (w : World) (hb : base ≤ w.heap.size) : Ow k e base (w.alloc (.cells #[] e)) (.slice (some ⟨w.heap.size, 0, none⟩) 0 0) [] :=
  RowI.ow (zs := []) (heap_alloc_new _ _) hb (by simp)
end Go.Tk
