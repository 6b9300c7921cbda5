/- Parts compared. -/
import Derived.Test.YthdkhlkmcebfeaaIriSplit
import Derived.Laws.StructEq
set_option linter.unusedVariables false
set_option linter.unusedSimpArgs false
namespace Go.Tk
open Go Go.RowKit
def Prts.eqB (p q : Prts) : Bool := p.sc == q.sc && p.au == q.au && p.pa == q.pa && p.qu == q.qu && p.fr == q.fr && p.ha == q.ha && p.hq == q.hq && p.hf == q.hf
theorem Prts.eqB_iff (p q : Prts) : p.eqB q = true ↔ p = q := by
  cases p; cases q
  simp [Prts.eqB, and_assoc]
theorem Prts.eqB_refl (p : Prts) : p.eqB p = true := (Prts.eqB_iff p p).2 rfl
theorem strB (a b : List UInt8) : ((⟨a.toArray⟩ : ByteArray).toList == (⟨b.toArray⟩ : ByteArray).toList) = (a == b) := by
  rw [Lib.toList_data, Lib.toList_data]
theorem alloc_row (w : World) (Z cs : Array Value) (T : TypeId) : ((w.alloc (.cells Z T)).setRow w.heap.size cs).heap[w.heap.size]? = some (.cells cs T (0, 0)) ∧ Below w.heap.size w ((w.alloc (.cells Z T)).setRow w.heap.size cs) :=
  ⟨setRow_heap _ w.heap.size Z cs T _ (heap_alloc_new _ _), rfl, rfl, rfl, by simp, fun k hk => (setRow_other _ w.heap.size k _ (by omega)).trans (Below.heap_alloc _ _ _ hk)⟩
end Go.Tk
namespace Go.Proofs.Ythdkhlkmcebfeaa
open Go.RowKit Go.Tk
theorem parts_fields : Try.prog.underlying 34 = some (.struct (Try.prog.fieldsOf 34)) := by kernel_rfl
theorem parts_stood : Try.prog.stoodInHeld 34 = false := by kernel_rfl
theorem parts_guard : Try.prog.eqGuardType Try.prog.depth 34 = false := by kernel_rfl
theorem parts_equal (p q : Prts) (w : World) : (Op.equalIn 10000 34 p.val q.val).run Try.prog w = .ok (p.eqB q) w := by
  unfold Prts.val
  rw [run_equalIn_agg w 9999 _ _ _ parts_fields parts_stood]
  unfold Program.fieldsOf
  rw [Try.underlying34]
  simp [go_sem, Prts.cells, strV, Op.eqFields, part]
  unfold Prts.eqB
  repeat' split
  all_goals simp [*]
theorem parts_eql (p q : Prts) (w : World) : (binOp .eql 34 (.agg p.cells) (.agg q.cells)).run Try.prog w = .ok (.bool (p.eqB q)) w := by
  rw [run_eql_struct]
  have := parts_equal p q w
  unfold Prts.val at this
  rw [this]; rfl
theorem parts_neq (p q : Prts) (w : World) : (binOp .neq 34 (.agg p.cells) (.agg q.cells)).run Try.prog w = .ok (.bool (!p.eqB q)) w := by
  rw [run_neq_struct]
  have := parts_equal p q w
  unfold Prts.val at this
  rw [this]; rfl
theorem parts_guarded (op : BinOp) (x y : Operand) (p q : Array Value) (w : World) : (eqGuard op 34 x y (.agg p) (.agg q)).run Try.prog w = .ok () w := run_eqGuard_agg w op _ x y p q parts_guard
theorem irisplits_go (w : World) (s : ByteArray) (hs : s.size ≤ 140737488351232) :
    Calls Try.prog 6 #[.string s] w fun e w' => e = .returned (.bool true) ∧ Below w.heap.size w w' := by
  have h1 := split2_calls s (hs := by omega)
  have h2 := rsplit2_calls s (hs := by omega)
  obtain ⟨r, hr⟩ : ∃ r, r = refE s.data.toList := ⟨_, rfl⟩
  rw [← hr] at h1 h2
  obtain ⟨pv, hpv⟩ : ∃ pv : Prts, pv = if r = 0 then splitP s.data.toList else P0 := ⟨_, rfl⟩
  rw [← hpv] at h1 h2
  unfold Prts.val at h1 h2
  have H1 := Lib.hid h1
  have H2 := Lib.hid h2
  have hi8 : (Try.prog.info? 34).map (·.size) = some 8 := by kernel_rfl
  have HI8 := Lib.hid hi8
  have heq := fun w => parts_eql pv pv w
  simp only [Prts.eqB_refl] at heq
  have hgd := parts_guarded
  clear hr hpv h1 h2 hi8
  go_enter Try.func6, Try.ntmps6
  go_wp2_with fail
  refine (H1.out _).mono ?_
  rintro e w1 ⟨rfl, hb1⟩
  go_wp2_with (refine wpList_store_row rfl 34 _ _ rfl w1.heap.size pv.cells rfl rfl _ _ (heap_alloc_new _ _) HI8.out rfl (Prts.one pv) ?_; change wpList _ _ _ _ _ ((w1.alloc (.cells P0.cells 34)).setRow w1.heap.size pv.cells); obtain ⟨hn, hb⟩ := alloc_row w1 P0.cells pv.cells 34; generalize (w1.alloc (.cells P0.cells 34)).setRow w1.heap.size pv.cells = w2 at hn hb ⊢; (have HNw2 := Lib.hid hn); (have HBw2 := Lib.hid hb); clear hn hb)
  refine (H2.out _).mono ?_
  rintro e w3 ⟨rfl, hb3⟩
  have z2 := lt_of_block HNw2.out
  have r1 := (hb3.block w1.heap.size z2).trans HNw2.out
  have b3 := (hb1.trans (HBw2.out.mono hb1.size)).trans (hb3.mono (by have := HBw2.out.size; have := hb1.size; omega))
  have z3 := lt_of_block r1
  have R1 := Lib.hid r1
  clear hb1 hb3 r1
  go_wp2_with (first
    | (refine wpList_store_row rfl 34 _ _ rfl w3.heap.size pv.cells rfl rfl _ _ (heap_alloc_new _ _) HI8.out rfl (Prts.one pv) ?_; change wpList _ _ _ _ _ ((w3.alloc (.cells P0.cells 34)).setRow w3.heap.size pv.cells); obtain ⟨hn, hb⟩ := alloc_row w3 P0.cells pv.cells 34; generalize (w3.alloc (.cells P0.cells 34)).setRow w3.heap.size pv.cells = w4 at hn hb ⊢; (have HNw4 := Lib.hid hn); (have HBw4 := Lib.hid hb); clear hn hb)
    | (refine wpList_load_row rfl 34 (.tmp 3) rfl w1.heap.size rfl _ pv.cells _ _ ((HBw4.out.block _ z3).trans R1.out) Try.underlying34 rfl HI8.out ?_)
    | (refine wpList_load_row rfl 34 (.tmp 5) rfl w3.heap.size rfl _ pv.cells _ _ HNw4.out Try.underlying34 rfl HI8.out ?_))
  go_ret
  exact ⟨rfl, b3.trans (HBw4.out.mono b3.size)⟩
end Go.Proofs.Ythdkhlkmcebfeaa
