/- Results, stores, numbers: what the document's walk over a tree's bytes needs. -/
import Derived.Test.YtgajpekolamjbaaDoorTvU
import Derived.Test.YtgajpekolamjbaaDoorBase
import Derived.Laws.EntriesVeiled
import Derived.Laws.Tables
import Derived.Laws.CopyOwn
set_option linter.unusedVariables false
set_option linter.unusedSimpArgs false
namespace Go.Tk
open Go Go.RowKit
theorem results_cc {P : Program} {fn : Func} {p q : Tmp} {ty ty2 : TypeId} (h : fn.results = #[.cell p ty, .cell q ty2]) (tmps : Array Value) (w : World) (g g2 : Nat) (t t2 : TypeId) (cs cs2 : Array Value) (fr fr2 : Nat × Nat) (d d2 : TypeDesc)
    (hp : tmps.getD p undef = .pointer (some ⟨g, 0, none⟩)) (hg : w.heap[g]? = some (.cells cs t fr)) (hq : tmps.getD q undef = .pointer (some ⟨g2, 0, none⟩)) (hg2 : w.heap[g2]? = some (.cells cs2 t2 fr2))
    (hu : P.underlying ty = some d) (hd : (match d with | .struct _ | .array _ _ => true | _ => false) = true) (hi : (P.info? ty).map (·.size) = some cs.size)
    (hu2 : P.underlying ty2 = some d2) (hd2 : (match d2 with | .struct _ | .array _ _ => true | _ => false) = true) (hi2 : (P.info? ty2).map (·.size) = some cs2.size) :
    (results fn tmps).run P w = .ok (.tuple #[.agg cs, .agg cs2]) w := by
  have hp' : tmps[p]?.getD undef = .pointer (some ⟨g, 0, none⟩) := by simpa using hp
  have hq' : tmps[q]?.getD undef = .pointer (some ⟨g2, 0, none⟩) := by simpa using hq
  simp [results, h, hp', hq', asAddr, run_loadVar_row w g t ty cs fr d hg hu hd hi, run_loadVar_row w g2 t2 ty2 cs2 fr2 d2 hg2 hu2 hd2 hi2]
theorem run_store_rowO {P : Program} {o : Oper} {a : Act} {w : World} (ty : TypeId) (x y : Operand) (ho : o.op = .store ty x y)
    (g : Nat) (cells : Array Value) (hx : a.eval x = .pointer (some ⟨g, 0, none⟩)) (hy : a.eval y = .agg cells)
    (t : TypeId) (old : Array Value) (hg : w.heap[g]? = some (.cells old t (0, 0))) (hi : (P.info? ty).map (·.size) = some cells.size)
    (hold : old.size = cells.size) (h1 : cells.all (·.oneCell') = true) : (execOp a.eval o).run P w = .ok .skip (w.setRow g cells) := by
  unfold execOp
  simp only [ho, hx, hy, Instr.storeAt, Instr.sureAddr, Sem.run_bind, Sem.run_pure, Result.andThen_ok, run_storeVar_row w g t ty old cells hg hi hold h1]
theorem results_tcO {P : Program} {fn : Func} {p q : Tmp} {ty : TypeId} (h : fn.results = #[.tmp q, .cell p ty]) (tmps : Array Value) (w : World) (g : Nat) (t : TypeId) (cs : Array Value) (fr : Nat × Nat) (d : TypeDesc)
    (hp : tmps.getD p undef = .pointer (some ⟨g, 0, none⟩)) (hg : w.heap[g]? = some (.cells cs t fr))
    (hu : P.underlying ty = some d) (hd : (match d with | .struct _ | .array _ _ => true | _ => false) = true) (hi : (P.info? ty).map (·.size) = some cs.size) :
    (results fn tmps).run P w = .ok (.tuple #[tmps.getD q undef, .agg cs]) w := by
  have hp' : tmps[p]?.getD undef = .pointer (some ⟨g, 0, none⟩) := by simpa using hp
  simp [results, h, hp', asAddr, run_loadVar_row w g t ty cs fr d hg hu hd hi]
theorem stor2O {w : World} {g : Nat} {x y u v : Value} {t : TypeId} (h : w.heap[g]? = some (.cells #[x, y] t (0, 0))) : ((w.setCell ⟨g, 0, none⟩ u).setCell ⟨g, 1, none⟩ v).heap[g]? = some (.cells #[u, v] t (0, 0)) :=
  heap_setCell_same _ _ 1 _ _ _ (heap_setCell_same _ _ 0 _ _ _ h)
theorem cellT0 {w : World} {b : Nat} {x y : Value} {t : TypeId} (h : w.heap[b]? = some (.cells #[x, y] t (0, 0))) : w.cell? ⟨b, 0, none⟩ = some x := by simp [World.cell?, h]
theorem cellT1 {w : World} {b : Nat} {x y : Value} {t : TypeId} (h : w.heap[b]? = some (.cells #[x, y] t (0, 0))) : w.cell? ⟨b, 1, none⟩ = some y := by simp [World.cell?, h]
end Go.Tk
namespace Go.Proofs.YtgajpekolamjbaaDoor
open Go.RowKit Go.Tk
/-- What is read at a place, by pk and by upS. -/
theorem ups_pk (z : List Int) (j : Nat) (hj : j ≤ z.length) : ∃ (v k : Nat) (e : Int), pk (z.drop j) = ((v : Int), (k : Int), e) ∧ upS z j 0 mxU = (if e ≠ 0 then (0, j, e) else ((v : Int), j + k, 0)) ∧ (v : Int) < 18446744073709551616 ∧ j + k ≤ z.length ∧ (e = 0 ∨ e = 10 ∨ e = 11) ∧ k ≤ 10 := by
  have h1 := pk_range (z.drop j)
  obtain ⟨k, hk1, hk2, _, hk4⟩ := pkF_len (z.drop j) 0 0
  have hk : (pk (z.drop j)).2.1 = k := hk1
  have hk10 := pkF_ten (z.drop j) 0 0 (by omega)
  rw [List.length_drop] at hk2
  refine ⟨(pk (z.drop j)).1.toNat, k, (pk (z.drop j)).2.2, ?_, ?_, by omega, by omega, hk4, by rw [hk1] at hk10; omega⟩
  · refine Prod.ext ?_ (Prod.ext hk rfl)
    simp only; omega
  · unfold upS
    rw [if_neg (by simp)]
    by_cases he : (pk (z.drop j)).2.2 = 0
    · rw [if_neg (by simp [he]), if_neg (show ¬ mxU < (pk (z.drop j)).1 by unfold mxU; omega), if_neg (by simp [he]), hk]
      refine Prod.ext ?_ rfl
      simp only; omega
    · rw [if_pos he, if_pos he]
end Go.Proofs.YtgajpekolamjbaaDoor
