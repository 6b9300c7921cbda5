/- fault at any error that may be; '==' of two faults, of two texts. -/
import Derived.Test.YthloijpnbljpeaaDoorFault
import Derived.Test.YthloijpnbljpeaaDoorUtfER
import Derived.Laws.StructEq
import Derived.Test.YthloijpnbljpeaaDoorQu
set_option linter.unusedVariables false
set_option linter.unusedSimpArgs false
namespace Go.Proofs.YthloijpnbljpeaaDoor
open Go.RowKit Go.Tk
/-- An error value that tells the place x and the number y (0, 0: none). -/
def EV (w : World) (v : Value) (x y : Int) : Prop := (v = .nilIface ∧ x = 0 ∧ y = 0) ∨ ∃ b, y ≠ 0 ∧ v = .iface 58 (.pointer (some ⟨b, 0, none⟩)) ∧ w.heap[b]? = some (.cells #[.int .i64 x, .iface 59 (.int .i64 y)] 63 (0, 0))
theorem wq_valG {P : Program} {ops : Array Oper} {C : World → Prop} {Q : Act → Prop} {o : Oper} {rest : List Oper} {a : Act} (v : Value) (hg : Region.wanted o (yielded ops a.tmps) = true) (h : ∀ w, C w → (execOp a.eval o).run P w = .ok (.value v) w) (hk : wpQuiet P ops C Q rest (a.put o.dst v)) : wpQuiet P ops C Q (o :: rest) a := by
  show if Region.wanted o (yielded ops a.tmps) then o.quiet P a C (wpQuiet P ops C Q rest) else wpQuiet P ops C Q rest (a.put o.dst undef)
  rw [if_pos hg]
  exact ⟨v, fun w hw => by unfold Oper.quietAt; rw [h w hw]; exact ⟨rfl, rfl⟩, hk⟩
theorem EV.nil (w : World) : EV w .nilIface 0 0 := .inl ⟨rfl, rfl, rfl⟩
theorem EV.below {w w' : World} {v : Value} {x y : Int} (h : EV w v x y) (hb : Below w.heap.size w w') : EV w' v x y := by
  rcases h with h | ⟨b, h0, h1, h2⟩
  · exact .inl h
  · exact .inr ⟨b, h0, h1, (hb.block b (lt_of_block h2)).trans h2⟩
theorem EV.at {w : World} {B : Nat} {v : Value} {x y : Int} (hy : y ≠ 0) (h : ErrAt w B v x y) : EV w v x y := by
  obtain ⟨b, h1, _, h3⟩ := h
  exact .inr ⟨b, hy, h1, h3⟩
theorem EV.none {w : World} {v : Value} {x : Int} (h : EV w v x 0) : v = .nilIface := by
  rcases h with ⟨h, _⟩ | ⟨b, h, _⟩
  · exact h
  · exact absurd rfl h
theorem fault_calls (w : World) (v : Value) (x y : Int) (hg : HandleMet w) (h : EV w v x y) :
    Calls Tryd.prog 10 #[v] w fun e w' => e = .returned (.agg #[.int .i64 x, .int .i64 y]) ∧ Below w.heap.size w w' := by
  rcases h with ⟨rfl, rfl, rfl⟩ | ⟨b, _, rfl, h2⟩
  · exact fault_nil w
  · exact fault_err x y b w hg h2
theorem fl_fields : Tryd.prog.underlying 30 = some (.struct (Tryd.prog.fieldsOf 30)) := by kernel_rfl
theorem fl_stood : Tryd.prog.stoodInHeld 30 = false := by kernel_rfl
theorem fl_guard : Tryd.prog.eqGuardType Tryd.prog.depth 30 = false := by kernel_rfl
theorem fl_eql (x y : Int) (w : World) : (binOp .eql 30 (.agg #[.int .i64 x, .int .i64 y]) (.agg #[.int .i64 x, .int .i64 y])).run Tryd.prog w = .ok (.bool true) w := by
  rw [run_eql_struct, run_equalIn_agg w 9999 _ _ _ fl_fields fl_stood]
  unfold Program.fieldsOf
  rw [Tryd.underlying30]
  simp [go_sem, Op.eqFields, part]
theorem fl_guarded (op : BinOp) (x y : Operand) (p q : Array Value) (w : World) : (eqGuard op 30 x y (.agg p) (.agg q)).run Tryd.prog w = .ok () w := run_eqGuard_agg w op _ x y p q fl_guard
theorem str_eql (b : ByteArray) (w : World) : (binOp .eql 9 (.string b) (.string b)).run Tryd.prog w = .ok (.bool true) w := by
  simp [go_sem]
end Go.Proofs.YthloijpnbljpeaaDoor
