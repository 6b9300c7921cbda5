/- A quiet contract at every world some draws later. -/
import Derived.Test.YtpphjiialgmidaaRkV
set_option linter.unusedVariables false
set_option linter.unusedSimpArgs false
namespace Go.Proofs.Ytpphjiialgmidaa
open Go.RowKit Go.Tk
theorem drew_ex {P : Program} {w0 w : World} {f : FuncId} {args : Array Value} {v : Value} (h : ∀ n, Calls P f args (w0.drewN n) fun e w' => e = .returned v ∧ ∃ k, w' = (w0.drewN n).drewN k) (hw : ∃ k, w = w0.drewN k) : Calls P f args w fun e w' => e = .returned v ∧ ∃ k, w' = w0.drewN k := by
  obtain ⟨k, rfl⟩ := hw
  exact quiet_dr (h k)
end Go.Proofs.Ytpphjiialgmidaa
