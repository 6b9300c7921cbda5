/- Opening arguments: a slice of integers. -/
import Derived.ProofKit
import Derived.OpenShut
import Derived.ChangeOld
import Derived.SizedLaws
import Derived.Below
import Derived.Test.YtlhcejbimlilaaaGreatDoorVaP
set_option linter.unusedVariables false
set_option linter.unusedSimpArgs false
namespace Go.Tk
open Go Go.RowKit Go.ChangeShapes Go.WideShapes Go.ChangeAt
/-- A slice of integers that came in: it is nil; or it leads to a row of 'cap' cells, the numbers 'zs'. -/
def IsRow (k : IntKind) (w : World) (a : Option Addr) (len cap : Nat) (zs : List Int) : Prop :=
  (a = none ∧ len = 0 ∧ cap = 0 ∧ zs = []) ∨
  ∃ x, a = some x ∧ len ≤ cap ∧ cap ≤ maxLen ∧ zs.length = cap ∧ (∀ i, i < zs.length → w.cell? (x.add i) = some (.int k (zs.getD i 0))) ∧ ∀ n ∈ zs, (Lit.int k n).wf = true
/-- A slice that came in reads as its elements. -/
theorem IsRow.sl {k : IntKind} {w : World} {a : Option Addr} {n c : Nat} {zs : List Int} (h : IsRow k w a n c zs) : SlI k w a n c (zs.take n) ∧ (a = none → c = 0) ∧ ∀ x ∈ zs.take n, (Lit.int k x).wf = true := by
  rcases h with ⟨rfl, rfl, rfl, rfl⟩ | ⟨x, rfl, hl, hm, hz, hc, hw⟩
  · exact ⟨⟨rfl, Nat.le_refl _, by omega, fun i hi => by omega⟩, fun _ => rfl, fun x hx => by simp at hx⟩
  · refine ⟨⟨by simp; omega, hl, by simpa [maxLen] using hm, fun i hi => ?_⟩, (fun e => by cases e), fun x hx => hw x (List.mem_of_mem_take hx)⟩
    have h1 := hc i (by omega)
    obtain ⟨b, o, spot⟩ := x
    have hs : spot = none := by
      have h0 := hc 0 (by omega)
      simpa [Addr.add] using World.cell?_spot h0
    subst hs
    refine ⟨b, o, rfl, ?_⟩
    rw [Addr.add_lit] at h1
    rw [h1]
    simp [List.getElem?_take, hi]
end Go.Tk
