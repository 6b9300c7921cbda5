/- Get, of a dictionary of any bytes. -/
import Derived.Test.YtjgcmnppiaikcaaDoorDkF
import Derived.Test.YtjgcmnppiaikcaaDoorPkBx
import Derived.Outline
import Derived.Sort.QuietTacIn
set_option linter.unusedVariables false
set_option linter.unusedSimpArgs false
namespace Go.Tk
open Go Go.RowKit
/-- The frame of a round is this one. -/
def axOf {α : Type} (fr : α → Act) : α → Act → World → Prop := fun x a' _ => a' = fr x
theorem axOf_intro {α : Type} {fr : α → Act} {x : α} {a' : Act} {W : World} (h : fr x = a') : axOf fr x a' W := h.symm
theorem axOf_own {α : Type} {B : Nat} (fr : α → Act) (x : α) (a' : Act) : OwnFrom B (fun (_ : Unit) W => axOf fr x a' W) := fun _ _ _ _ h _ _ => h
theorem leaves0 {F : Fence} {n : Nat} {P : Program} {fn : Func} {R : Ending → World → Prop} {a : Act} {W : World} {v : Value}
    (h : a.defers = []) (hres : (results fn a.tmps).run P W = .ok v W) (hR : R (.returned v) W) : LeavesInM F n P fn a.tmps R a.defers .returning W := by
  rw [h]
  exact ⟨_, hres, hR⟩
theorem find_at {L : List (Nat × List UInt8)} {i : Int} {base : Nat} (hat : ∀ j (h : j < L.length), L[j].1 = base + j) (x : Fin L.length) (hx : ((L[x.val].1 : Nat) : Int) = i) : L.find? (fun y => decide ((y.1 : Int) = i)) = some L[x.val] := by
  cases hf : L.find? (fun y => decide ((y.1 : Int) = i)) with
  | none =>
    have := List.find?_eq_none.1 hf L[x.val] (List.getElem_mem x.isLt)
    exact absurd hx (by simpa using this)
  | some y =>
    have h1 := List.find?_some hf
    obtain ⟨k, hk, rfl⟩ := List.mem_iff_getElem.1 (List.mem_of_find?_eq_some hf)
    have h2 : ((L[k].1 : Nat) : Int) = i := by simpa using h1
    have h3 := hat k hk
    have h4 := hat x.val x.isLt
    have : k = x.val := by omega
    simp only [this]
theorem find_none {L : List (Nat × List UInt8)} {i : Int} (h : ∀ x : Fin L.length, ((L[x.val].1 : Nat) : Int) ≠ i) : L.find? (fun y => decide ((y.1 : Int) = i)) = none := by
  rw [List.find?_eq_none]
  intro y hy
  obtain ⟨k, hk, rfl⟩ := List.mem_iff_getElem.1 hy
  simpa using h ⟨k, hk⟩
end Go.Tk
namespace Go.Proofs.YtjgcmnppiaikcaaDoor
open Go.RowKit Go.Shelf Go.Tk
attribute [local go_sem] Oper.semAt_some
/-- What Get says. -/
def getF (pz : List Int) (wd : Nat) (eb : List UInt8) (n : Nat) (i : Int) : List UInt8 × Bool :=
  if i < 0 ∨ (n : Int) ≤ i then ([], false) else
  match (blkN pz wd eb n (i.toNat / 16)).find? (fun x => decide ((x.1 : Int) = i)) with
  | some x => (x.2, true)
  | none => ([], false)
end Go.Proofs.YtjgcmnppiaikcaaDoor
