/- Regions that draw their order: the first n operations in whatever order, each quiet; then a forced tail, in an order of its own (not the text's). -/
import Derived.Test.YtlhcejbimlilaaaGreatDoorQuL
import Derived.Test.YtlhcejbimlilaaaGreatDoorHeD
set_option linter.unusedVariables false
set_option linter.unusedSimpArgs false
namespace Go.Tk
open Go Go.RowKit
section
variable {P : Program} {ops : Array Oper} {md : Region.Mode} {C : World → Prop}
/-- Operations picked from a list, by their places. -/
inductive Picks (l : List Oper) : List Nat → List Oper → Prop
  | nil : Picks l [] []
  | cons {p : Nat} {o : Oper} {ps : List Nat} {t : List Oper} (h : l[p]? = some o) (hp : Picks l ps t) : Picks l (p :: ps) (o :: t)
theorem Picks.map {l : List Oper} {ps : List Nat} {t : List Oper} (h : Picks l ps t) : t.map some = ps.map (l.toArray[·]?) := by
  induction h with
  | nil => rfl
  | cons h _ ih => rw [List.map_cons, List.map_cons, ih]; simp [h]
end
end Go.Tk
namespace Go.Tk
open Go Go.RowKit
section
variable {P : Program} {ops : Array Oper} {Q : Exit → Act → World → Prop} {md : Region.Mode} {S : World → Prop}
/-- An operation that yields one value wherever S holds; it may have a guard. -/
theorem wh_takeW (i d : Nat) (v : Value) {o : Oper} {fuel : Nat} {listed : Array Bool} {a : Act} {w : World} (hi : ops[i]? = some o) (hd : o.dst = some d) (hw : Region.wanted o (yielded ops a.tmps) = true)
    (hs : Region.noSelect ops = true) (hf : Region.free md ops listed i = true) (hr : (Region.ready md ops listed).contains i = true)
    (hQ : ∀ c a a' w, Q (.panic c) a' w → Q (.panic c) a w) (hS : S w)
    (hy : ∀ w', S w' → (execOp a.eval o).run P w' = .ok (.value v) w')
    (h : wpAnyH P md ops Q S fuel (listed.setIfInBounds i true) ⟨a.tmps.setIfInBounds d v, a.defers⟩ w) : wpAnyH P md ops Q S (fuel + 1) listed a w :=
  wpAnyH_take hi hs hf hr (fun c a w => hQ c a _ w) (.inl ⟨hw, hy⟩) hS (by rw [hd]; exact h)
/-- An operation whose guard shuts it out. -/
theorem wh_takeU (i d : Nat) {o : Oper} {fuel : Nat} {listed : Array Bool} {a : Act} {w : World} (hi : ops[i]? = some o) (hd : o.dst = some d) (hw : Region.wanted o (yielded ops a.tmps) = false)
    (hs : Region.noSelect ops = true) (hf : Region.free md ops listed i = true) (hr : (Region.ready md ops listed).contains i = true)
    (hQ : ∀ c a a' w, Q (.panic c) a' w → Q (.panic c) a w) (hS : S w)
    (h : wpAnyH P md ops Q S fuel (listed.setIfInBounds i true) ⟨a.tmps.setIfInBounds d undef, a.defers⟩ w) : wpAnyH P md ops Q S (fuel + 1) listed a w :=
  wpAnyH_take hi hs hf hr (fun c a w => hQ c a _ w) (.inr ⟨hw, rfl⟩) hS (by rw [hd]; exact h)
/-- A call with a guard that lets it in, when it alone may come. -/
theorem wh_callW (i d : Nat) (v : Value) (R : World → Prop) {o : Oper} {fuel : Nat} {listed : Array Bool} {a : Act} {w : World} {f : FuncId} {args : Array Value} (hi : ops[i]? = some o) (hd : o.dst = some d) (hw : Region.wanted o (yielded ops a.tmps) = true) (hr : Region.ready md ops listed = [i])
    (he : (execOp a.eval o).run P w = .ok (.enter f args) w) (hc : Calls P f args w fun e w' => e = .returned v ∧ R w') (hS : ∀ w', R w' → S w')
    (h : ∀ w', R w' → wpAnyH P md ops Q S fuel (listed.setIfInBounds i true) ⟨a.tmps.setIfInBounds d v, a.defers⟩ w') : wpAnyH P md ops Q S (fuel + 1) listed a w := by
  refine wpAnyH_all hr (by simp) fun j hj => ?_
  obtain rfl : j = i := by simpa using hj
  unfold Go.wpOp
  simp only [hi, hw, if_true, Oper.wp, he, Oper.upon]
  refine .inl (hc.mono ?_)
  rintro e w' ⟨rfl, hR⟩
  refine ⟨hS w' hR, ?_⟩
  rw [hd]
  exact h w' hR
end
end Go.Tk
