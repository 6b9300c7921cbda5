/- Small laws used by all texts of this seat. -/
import Derived.WalkKit
import Derived.Deep.Draws
import Derived.Lib.Hide
set_option linter.unusedVariables false
set_option linter.unusedSimpArgs false
namespace Go.Tk
open Go Go.RowKit
theorem below_drewN {B : Nat} {a w : World} (h : Below B a w) (n : Nat) : Below B a (w.drewN n) := ⟨h.os, h.tape, h.output, h.size, h.block⟩
/-- The slice 'a, n, cap' reads as the numbers zs. -/
structure SlI (k : IntKind) (w : World) (a : Option Addr) (n cap : Nat) (zs : List Int) : Prop where
  len : zs.length = n
  le : n ≤ cap
  max : cap ≤ 9223372036854775807
  cell : ∀ i, i < n → ∃ b o, a = some ⟨b, o, none⟩ ∧ w.cell? ⟨b, o + i, none⟩ = some (.int k (zs.getD i 0))
theorem SlI.drewN {k : IntKind} {w : World} {a : Option Addr} {n cap : Nat} {zs : List Int} (h : SlI k w a n cap zs) (m : Nat) : SlI k (w.drewN m) a n cap zs := ⟨h.len, h.le, h.max, h.cell⟩
theorem SlI.below {k : IntKind} {w w' : World} {B : Nat} {a : Option Addr} {n cap : Nat} {zs : List Int} (h : SlI k w a n cap zs) (hb : Below B w w') (ha : ∀ x, a = some x → x.block < B) : SlI k w' a n cap zs :=
  ⟨h.len, h.le, h.max, fun i hi => by
    obtain ⟨b, o, rfl, hc⟩ := h.cell i hi
    exact ⟨b, o, rfl, (hb.cell (p := ⟨b, o + i, none⟩) (ha ⟨b, o, none⟩ rfl)).trans hc⟩⟩
theorem SlI.alloc {k : IntKind} {w : World} {a : Option Addr} {n cap : Nat} {zs : List Int} (h : SlI k w a n cap zs) (o : Obj) : SlI k (w.alloc o) a n cap zs :=
  ⟨h.len, h.le, h.max, fun i hi => by
    obtain ⟨b, p, rfl, hc⟩ := h.cell i hi
    exact ⟨b, p, rfl, (((Below.refl w.heap.size w).alloc (Nat.le_refl _) o).cell (p := ⟨b, p + i, none⟩) (block_lt_of_cell hc)).trans hc⟩⟩
/-- Whatever keeps all old blocks keeps a slice that reads. -/
theorem SlI.keep {k : IntKind} {w w' : World} {a : Option Addr} {n cap : Nat} {zs : List Int} (h : SlI k w a n cap zs) (hb : Below w.heap.size w w') : SlI k w' a n cap zs :=
  ⟨h.len, h.le, h.max, fun i hi => by
    obtain ⟨b, p, rfl, hc⟩ := h.cell i hi
    exact ⟨b, p, rfl, (hb.cell (p := ⟨b, p + i, none⟩) (block_lt_of_cell hc)).trans hc⟩⟩
/-- Are two lists of numbers one? -/
def sameB (x y : List Int) : Bool := decide (x = y)
theorem sameB_yes {x y : List Int} (h : x = y) : sameB x y = true := by simp [sameB, h]
theorem sameB_no {x y : List Int} (h : x ≠ y) : sameB x y = false := by simp [sameB, h]
theorem take_step {x y : List Int} {k : Nat} (h : x.take k = y.take k) (hx : k < x.length) (hy : k < y.length) (he : x.getD k 0 = y.getD k 0) : x.take (k + 1) = y.take (k + 1) := by
  rw [List.take_succ_eq_append_getElem hx, List.take_succ_eq_append_getElem hy, h]
  simp [hx, hy] at he
  rw [he]
theorem ret_bool {a b : Bool} (h : a = b) : Ending.returned (.bool a) = .returned (.bool b) := by rw [h]
theorem ret_int {k : IntKind} {a b : Int} (h : a = b) : Ending.returned (.int k a) = .returned (.int k b) := by rw [h]
end Go.Tk
