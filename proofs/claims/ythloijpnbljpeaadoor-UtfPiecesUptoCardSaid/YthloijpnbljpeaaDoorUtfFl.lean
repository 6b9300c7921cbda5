/- Fields of a fault; a guarded call in a quiet region. -/
import Derived.Test.YthloijpnbljpeaaDoorFlt
set_option linter.unusedVariables false
set_option linter.unusedSimpArgs false
namespace Go.Proofs.YthloijpnbljpeaaDoor
open Go.RowKit Go.Tk
theorem fl_field0 (x y : Value) (w : World) : (Instr.field 30 (.agg #[x, y]) 0).run Tryd.prog w = .ok x w := by kernel_rfl
theorem fl_field1 (x y : Value) (w : World) : (Instr.field 30 (.agg #[x, y]) 1).run Tryd.prog w = .ok y w := by kernel_rfl
theorem wq_callG {P : Program} {ops : Array Oper} {C : World → Prop} {Q : Act → Prop} {o : Oper} {rest : List Oper} {a : Act} (v : Value) (f : FuncId) (args : Array Value) (hg : Region.wanted o (yielded ops a.tmps) = true) (he : ∀ w, (execOp a.eval o).run P w = .ok (.enter f args) w) (hc : ∀ w, C w → Calls P f args w fun e w' => e = .returned v ∧ C w')
    (hk : wpQuiet P ops C Q rest (a.put o.dst v)) : wpQuiet P ops C Q (o :: rest) a := by
  show if Region.wanted o (yielded ops a.tmps) then o.quiet P a C (wpQuiet P ops C Q rest) else wpQuiet P ops C Q rest (a.put o.dst undef)
  rw [if_pos hg]
  exact ⟨v, fun w hw => by unfold Oper.quietAt; rw [he w]; exact ⟨rfl, hc w hw⟩, hk⟩
end Go.Proofs.YthloijpnbljpeaaDoor
