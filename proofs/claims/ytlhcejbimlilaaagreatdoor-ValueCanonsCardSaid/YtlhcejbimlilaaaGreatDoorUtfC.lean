/- UtfRN UtfC, laid as one. -/
import Derived.Test.YtlhcejbimlilaaaGreatDoorUtfR
set_option linter.unusedVariables false
set_option linter.unusedSimpArgs false
/- The document's Next. -/
namespace Go.Proofs.YtlhcejbimlilaaaGreatDoor
open Go.RowKit Go.Tk
end Go.Proofs.YtlhcejbimlilaaaGreatDoor
/- Check: the program's, the document's. -/
namespace Go.Tk
open Go Go.RowKit
/-- The place at which no scalar stands, of a text that begins at place x; -1: there is none. -/
def chkN : Nat → List UInt8 → Int → Int
  | 0, _, _ => -1
  | f + 1, l, x => if l = [] then -1 else if (dec l).2 = 0 then x else chkN f (l.drop (dec l).2) (x + (dec l).2)
theorem chkN_fuel : ∀ (f g : Nat) (l : List UInt8) (x : Int), l.length ≤ f → l.length ≤ g → chkN f l x = chkN g l x
  | 0, g, l, x, h, _ => by
    obtain rfl : l = [] := List.eq_nil_of_length_eq_zero (by omega)
    cases g <;> simp [chkN]
  | f + 1, 0, l, x, _, h => by
    obtain rfl : l = [] := List.eq_nil_of_length_eq_zero (by omega)
    simp [chkN]
  | f + 1, g + 1, l, x, h1, h2 => by
    simp only [chkN]
    split
    · rfl
    split
    · rfl
    · rename_i h0
      exact chkN_fuel f g _ _ (by simp; omega) (by simp; omega)
def chkF (l : List UInt8) (x : Int) : Int := chkN l.length l x
theorem chkF_step {l : List UInt8} (x : Int) (h : l ≠ []) : chkF l x = if (dec l).2 = 0 then x else chkF (l.drop (dec l).2) (x + (dec l).2) := by
  have hp := List.length_pos_iff.2 h
  obtain ⟨n, hn⟩ : ∃ n, l.length = n + 1 := ⟨l.length - 1, by omega⟩
  unfold chkF
  rw [hn]
  simp only [chkN]
  rw [if_neg h]
  split
  · rfl
  · exact chkN_fuel _ _ _ _ (by simp; omega) (Nat.le_refl _)
theorem chkF_nil (x : Int) : chkF [] x = -1 := rfl
end Go.Tk
namespace Go.Proofs.YtlhcejbimlilaaaGreatDoor
open Go.RowKit Go.Tk
end Go.Proofs.YtlhcejbimlilaaaGreatDoor
