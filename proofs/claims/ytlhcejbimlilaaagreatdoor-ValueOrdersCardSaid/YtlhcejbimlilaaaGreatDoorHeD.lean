/- He HeD, laid as one. -/
import Derived.Test.YtlhcejbimlilaaaGreatDoorReg
import Derived.OrdersHeld
import Derived.Deep.RegionHeld
import Derived.Laws.Rows
set_option linter.unusedVariables false
set_option linter.unusedSimpArgs false
/- Regions that draw their order, step by step under a predicate of one's own: what yields one value wherever it holds is taken first; what writes comes when it alone may come. -/
namespace Go.Tk
open Go
section
variable {P : Program} {ops : Array Oper} {Q : Exit → Act → World → Prop} {md : Region.Mode} {S : World → Prop}
theorem wanted_free {o : Oper} {x : Array Value} (hg : o.guard = none) : Region.wanted o (yielded ops x) = true := by simp [Region.wanted, hg]
/-- An operation that yields nothing: a store. -/
theorem wh_skip (i : Nat) {o : Oper} {fuel : Nat} {listed : Array Bool} {a : Act} {w w' : World} (hi : ops[i]? = some o) (hg : o.guard = none) (hr : Region.ready md ops listed = [i])
    (hy : (execOp a.eval o).run P w = .ok .skip w') (hS : S w') (h : wpAnyH P md ops Q S fuel (listed.setIfInBounds i true) (a.put o.dst undef) w') : wpAnyH P md ops Q S (fuel + 1) listed a w := by
  refine wpAnyH_all hr (by simp) fun j hj => ?_
  obtain rfl : j = i := by simpa using hj
  unfold Go.wpOp
  simp only [hi, wanted_free (ops := ops) (x := a.tmps) hg, if_true, Oper.wp, hy, Oper.upon]
  exact .inl ⟨hS, h⟩
theorem run_load_row {o : Oper} {a : Act} (ty : TypeId) (x : Operand) (ho : o.op = .load ty x) (g : Nat) (hx : a.eval x = .pointer (some ⟨g, 0, none⟩)) (t : TypeId) (cs : Array Value) (fr : Nat × Nat) (d : TypeDesc) (w : World)
    (hb : w.heap[g]? = some (.cells cs t fr)) (hu : P.underlying ty = some d) (hd : (match d with | .struct _ | .array _ _ => true | _ => false) = true) (hi : (P.info? ty).map (·.size) = some cs.size) :
    (execOp a.eval o).run P w = .ok (.value (.agg cs)) w := by
  unfold execOp
  simp only [ho, hx, Instr.loadAt, Instr.sureAddr, Sem.run_bind, Sem.run_pure, Result.andThen_ok, run_loadVar_row w g t ty cs fr d hb hu hd hi]
/-- The beginning. -/
theorem wh_start {id : Nat} {l : List Oper} {a : Act} {w : World} (n : Nat) (hn : l.toArray.size = n) (hm : P.follows .mixedOrders = true)
    (h : wpAnyH P .any l.toArray Q S n (Array.replicate n false) a w.drew) : (Code.region id l.toArray true).wp P Q a w := by
  subst hn; exact wp_region_held hm h
end
end Go.Tk
/- Regions step by step, the frame written by its slots. -/
namespace Go.Tk
open Go
section
variable {P : Program} {ops : Array Oper} {Q : Exit → Act → World → Prop} {md : Region.Mode} {S : World → Prop}
theorem wh_skipD (i : Nat) {o : Oper} {fuel : Nat} {listed : Array Bool} {a : Act} {w w' : World} (hi : ops[i]? = some o) (hd : o.dst = none) (hg : o.guard = none) (hr : Region.ready md ops listed = [i])
    (hy : (execOp a.eval o).run P w = .ok .skip w') (hS : S w') (h : wpAnyH P md ops Q S fuel (listed.setIfInBounds i true) a w') : wpAnyH P md ops Q S (fuel + 1) listed a w :=
  wh_skip i hi hg hr hy hS (by rw [hd]; exact h)
end
theorem wh_startN {P : Program} {S : World → Prop} {K : Act → World → Prop} {Q : Exit → Act → World → Prop} {id : Nat} {l : List Oper} {a : Act} {w : World} (n : Nat) (hn : l.toArray.size = n) (hm : P.follows .mixedOrders = true)
    (h : wpAnyH P .any l.toArray (Exit.then K (fun _ _ _ => False)) S n (Array.replicate n false) a w.drew) : (Code.region id l.toArray true).wp P (Exit.then K Q) a w :=
  Code.wp_mono (fun e a w he => by
    cases e with
    | normal => exact he
    | _ => exact absurd he (fun h => h)) (wh_start n hn hm h)
end Go.Tk
