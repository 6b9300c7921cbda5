/- An error value: none, or a place and a number. -/
import Derived.Test.YthloijpnbljpeaaUtfE
set_option linter.unusedVariables false
set_option linter.unusedSimpArgs false
namespace Go.Proofs.Ythloijpnbljpeaa
open Go.RowKit Go.Tk
/-- An error value that tells the place x and the number y (0, 0: none). -/
def EV (w : World) (v : Value) (x y : Int) : Prop := (v = .nilIface ∧ x = 0 ∧ y = 0) ∨ ∃ b, y ≠ 0 ∧ v = .iface 70 (.pointer (some ⟨b, 0, none⟩)) ∧ w.heap[b]? = some (.cells #[.int .i64 x, .iface 23 (.int .i64 y)] 72 (0, 0))
theorem EV.nil (w : World) : EV w .nilIface 0 0 := .inl ⟨rfl, rfl, rfl⟩
theorem EV.below {w w' : World} {v : Value} {x y : Int} (h : EV w v x y) (hb : Below w.heap.size w w') : EV w' v x y := by
  rcases h with h | ⟨b, h0, h1, h2⟩
  · exact .inl h
  · exact .inr ⟨b, h0, h1, (hb.block b (lt_of_block h2)).trans h2⟩
theorem EV.at {w : World} {B : Nat} {v : Value} {x y : Int} (hy : y ≠ 0) (h : ErrAt w B v x y) : EV w v x y := by
  obtain ⟨b, h1, _, h3⟩ := h
  exact .inr ⟨b, hy, h1, h3⟩
theorem EV.none {w : World} {v : Value} {x : Int} (h : EV w v x 0) : v = .nilIface := by
  rcases h with ⟨h, _⟩ | ⟨b, h, _⟩
  · exact h
  · exact absurd rfl h
end Go.Proofs.Ythloijpnbljpeaa
