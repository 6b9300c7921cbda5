/- fault: what an error tells: none; or the place and the number of a *api.ByteError that holds an api.Errno. -/
import Derived.Test.YtgajpekolamjbaaDoorAs4
import Derived.Test.YtgajpekolamjbaaDoorCpK
import Derived.Laws.EntriesVeiled
import Derived.Laws.Tables
import Derived.RangeFuncBox
import Derived.Outline
import Derived.Deep.CutBlock
set_option linter.unusedVariables false
set_option linter.unusedSimpArgs false
namespace Go.Proofs.YtgajpekolamjbaaDoor
open Go.RowKit Go.Tk
theorem HandleMet.pos {w : World} (h : HandleMet w) : 0 < w.heap.size := by
  rcases Nat.eq_zero_or_pos w.heap.size with h0 | h1
  · simp [HandleMet, World.cell?, h0] at h
  · exact h1
theorem HandleMet.alloc {w : World} (h : HandleMet w) (o : Obj) : HandleMet (w.alloc o) := by
  unfold HandleMet
  rw [World.cell?_alloc_lt _ _ ⟨0, 0, none⟩ h.pos]; exact h
theorem HandleMet.below {w w' : World} {B : Nat} (h : HandleMet w) (hb : Below B w w') (hB : 0 < B) : HandleMet w' := (hb.cell (p := ⟨0, 0, none⟩) hB).trans h
/-- What errors.As leaves: the target's box is set, all else that stood stands. -/
structure AsLeft (w w' : World) (B : Nat) (t : TypeId) (v : Value) : Prop where
  box : Boxed w' B t v
  below : ∀ n, n ≤ B → Below n w w'
  other : ∀ j, j < w.heap.size → j ≠ B → w'.heap[j]? = w.heap[j]?
theorem asLeft (w : World) (B : Nat) (t : TypeId) (u v : Value) (o1 o2 o3 o4 : Obj) (hb : Boxed w B t u) : AsLeft w (((((w.alloc o1).alloc o2).alloc o3).alloc o4).setCell ⟨B, 0, none⟩ v) B t v := by
  have hl := lt_of_block hb
  refine ⟨((((hb.alloc o1).alloc o2).alloc o3).alloc o4).set v, fun n hn => ?_, fun j hj hjB => ?_⟩
  · exact (((((Below.refl n w).alloc (by omega) o1).alloc (by simp; omega) o2).alloc (by simp; omega) o3).alloc (by simp; omega) o4).setCell (p := ⟨B, 0, none⟩) hn v
  · rw [heap_setCell_other _ _ _ _ (by simpa using hjB)]
    exact ((((Below.heap_alloc _ _ _ (by simp; omega)).trans (Below.heap_alloc _ _ _ (by simp; omega))).trans (Below.heap_alloc _ _ _ (by simp; omega))).trans (Below.heap_alloc _ _ _ hj))
theorem as_B (e : Addr) (B : Nat) (w : World) (hg : HandleMet w) (hb : Boxed w B 61 (.pointer none)) :
    Calls Tryd.prog 21 #[.iface 61 (.pointer (some e)), .iface 63 (.pointer (some ⟨B, 0, none⟩))] w fun ev w' => ev = .returned (.bool true) ∧ AsLeft w w' B 61 (.pointer (some e)) := by
  refine (as_hit_B e ⟨B, 0, none⟩ (.pointer none) w hg hb.cell (frozen_of_row _ _ 0 _ _ hb)).mono ?_
  rintro ev w' ⟨rfl, rfl⟩
  exact ⟨rfl, asLeft w B _ _ _ _ _ _ _ hb⟩
theorem as_N (n : Int) (B : Nat) (w : World) (hg : HandleMet w) (hb : Boxed w B 54 (.int .i64 0)) :
    Calls Tryd.prog 21 #[.iface 54 (.int .i64 n), .iface 66 (.pointer (some ⟨B, 0, none⟩))] w fun ev w' => ev = .returned (.bool true) ∧ AsLeft w w' B 54 (.int .i64 n) := by
  refine (as_hit_N n ⟨B, 0, none⟩ (.int .i64 0) w hg hb.cell (frozen_of_row _ _ 0 _ _ hb)).mono ?_
  rintro ev w' ⟨rfl, rfl⟩
  exact ⟨rfl, asLeft w B _ _ _ _ _ _ _ hb⟩
theorem cell_row0 {w : World} {b : Nat} {x y : Value} {t : TypeId} (h : w.heap[b]? = some (.cells #[x, y] t (0, 0))) : w.cell? ⟨b, 0, none⟩ = some x := by simp [World.cell?, h]
theorem cell_row1 {w : World} {b : Nat} {x y : Value} {t : TypeId} (h : w.heap[b]? = some (.cells #[x, y] t (0, 0))) : w.cell? ⟨b, 1, none⟩ = some y := by simp [World.cell?, h]
theorem Tryd.sizeFault : (Tryd.prog.info? 33).map (·.size) = some 2 := by kernel_rfl
set_option maxHeartbeats 2000000 in
set_option maxRecDepth 100000 in
theorem fault_nil (w : World) : Calls Tryd.prog 7 #[.nilIface] w fun e w' => e = .returned (.agg #[.int .i64 0, .int .i64 0]) ∧ Below w.heap.size w w' := by
  have HI := Lib.hid Tryd.sizeFault
  have hrow : (w.alloc (.cells #[.int .i64 0, .int .i64 0] 33)).heap[w.heap.size]? = some (.cells #[.int .i64 0, .int .i64 0] 33 (0, 0)) := World.alloc_heap_new w _
  have HROW := Lib.hid hrow
  clear hrow
  go_enter Tryd.func7, Tryd.ntmps7
  go_wp2
  refine bodyPost_ret (results_cell_row rfl _ _ w.heap.size _ _ _ _ rfl HROW.out Tryd.underlying33 rfl HI.out) rfl ⟨rfl, ?_⟩
  exact (Below.refl w.heap.size w).alloc (Nat.le_refl _) _
set_option maxHeartbeats 4000000 in
set_option maxRecDepth 100000 in
theorem fault_err (at' n : Int) (b : Nat) (w : World) (hg : HandleMet w) (hb : w.heap[b]? = some (.cells #[.int .i64 at', .iface 54 (.int .i64 n)] 65 (0, 0))) :
    Calls Tryd.prog 7 #[.iface 61 (.pointer (some ⟨b, 0, none⟩))] w fun e w' => e = .returned (.agg #[.int .i64 at', .int .i64 n]) ∧ Below w.heap.size w w' := by
  have HI := Lib.hid Tryd.sizeFault
  have hbl := lt_of_block hb
  have hg3 := ((hg.alloc (.cells #[.int .i64 0, .int .i64 0] 33)).alloc (.cells #[.pointer none] 61)).alloc (.cells #[.int .i64 0] 54)
  have hr3 : (((w.alloc (.cells #[.int .i64 0, .int .i64 0] 33)).alloc (.cells #[.pointer none] 61)).alloc (.cells #[.int .i64 0] 54)).heap[w.heap.size]? = some (.cells #[.int .i64 0, .int .i64 0] 33 (0, 0)) :=
    (Below.heap_alloc _ _ _ (by simp; omega)).trans ((Below.heap_alloc _ _ _ (by simp)).trans (World.alloc_heap_new w _))
  have hp3 := (Boxed.new (w.alloc (.cells #[.int .i64 0, .int .i64 0] 33)) 61 (.pointer none)).alloc (.cells #[.int .i64 0] 54)
  have hn3 := Boxed.new ((w.alloc (.cells #[.int .i64 0, .int .i64 0] 33)).alloc (.cells #[.pointer none] 61)) 54 (.int .i64 0)
  have he3 : (((w.alloc (.cells #[.int .i64 0, .int .i64 0] 33)).alloc (.cells #[.pointer none] 61)).alloc (.cells #[.int .i64 0] 54)).heap[b]? = some (.cells #[.int .i64 at', .iface 54 (.int .i64 n)] 65 (0, 0)) :=
    (Below.heap_alloc _ _ _ (by simp; omega)).trans ((Below.heap_alloc _ _ _ (by simp; omega)).trans ((Below.heap_alloc _ _ _ hbl).trans hb))
  have hB3 := (((Below.refl w.heap.size w).alloc (Nat.le_refl _) (.cells #[.int .i64 0, .int .i64 0] 33)).alloc (by simp) (.cells #[.pointer none] 61)).alloc (by simp; omega) (.cells #[.int .i64 0] 54)
  have hz3 : (((w.alloc (.cells #[.int .i64 0, .int .i64 0] 33)).alloc (.cells #[.pointer none] 61)).alloc (.cells #[.int .i64 0] 54)).heap.size = w.heap.size + 3 := by simp
  simp only [World.size_alloc, Nat.add_assoc, Nat.reduceAdd] at hp3 hn3
  have HB := Lib.hid hb
  have HG := Lib.hid hg
  have HR3 := Lib.hid hr3
  clear hb hg hr3
  go_enter Tryd.func7, Tryd.ntmps7
  go_upto_region 5 with fail
  simp only [Nat.add_assoc, Nat.reduceAdd]
  have hr3 := HR3.out
  generalize (((w.alloc (.cells #[.int .i64 0, .int .i64 0] 33)).alloc (.cells #[.pointer none] 61)).alloc (.cells #[.int .i64 0] 54)) = W3 at hg3 hp3 hn3 he3 hB3 hz3 hr3 ⊢
  have HG3 := Lib.hid hg3
  have HP3 := Lib.hid hp3
  have HN3 := Lib.hid hn3
  have HE3 := Lib.hid he3
  have HR := Lib.hid hr3
  clear HR3 hg3 hp3 hn3 he3 hr3
  go_wp2_with (first
    | (go_at_call 21; ((with_reducible refine (as_B ⟨b, 0, none⟩ (w.heap.size + 1) W3 HG3.out HP3.out).mono ?_); rintro e W4 ⟨rfl, HL⟩; (have hp4 := HL.box.cell); (have he4 := (HL.other b (by omega) (by omega)).trans HE3.out); (have ha4 := cell_row0 he4); (have hn4 := cell_row1 he4); (have HG4 := Lib.hid (HG3.out.below (HL.below 1 (by omega)) (by omega))); (have HN4 := Lib.hid (show Boxed W4 (w.heap.size + 2) 54 (.int .i64 0) from (HL.other (w.heap.size + 2) (by omega) (by omega)).trans HN3.out)); (have HR4 := Lib.hid ((HL.other w.heap.size (by omega) (by omega)).trans HR.out)); (have HHE4 := Lib.hid he4); (have HHP4 := Lib.hid HL.box); (have hB4 := hB3.trans (HL.below w.heap.size (by omega))); (have hz4 := (HL.below 0 (by omega)).size); clear he4 HL))
    | (go_at_call 21; ((with_reducible refine (as_N n (w.heap.size + 2) W4 HG4.out HN4.out).mono ?_); rintro e W5 ⟨rfl, HL5⟩; clear hp4 ha4 hn4; (have hp5 := (show Boxed W5 (w.heap.size + 1) 61 (.pointer (some ⟨b, 0, none⟩)) from (HL5.other _ (by omega) (by omega)).trans HHP4.out).cell); (have hn5 := HL5.box.cell); (have he5 := (HL5.other b (by omega) (by omega)).trans HHE4.out); (have ha5 := cell_row0 he5); (have HR5 := Lib.hid ((HL5.other w.heap.size (by omega) (by omega)).trans HR4.out)); (have hB5 := hB4.trans (HL5.below w.heap.size (by omega))); clear he5 HL5)))
  have hr5 := HR5.out
  have hf0 := frozen_of_row W5 w.heap.size 0 _ _ hr5
  have hf1 := frozen_of_row W5 w.heap.size 1 _ _ hr5
  have hc0 := cell_row0 hr5
  have hc1 := cell_row1 hr5
  clear hr5
  go_region
  go_wp2
  have hnew : ((W5.setCell ⟨w.heap.size, 0, none⟩ (.int .i64 at')).setCell ⟨w.heap.size, 1, none⟩ (.int .i64 n)).heap[w.heap.size]? = some (.cells #[.int .i64 at', .int .i64 n] 33 (0, 0)) := by
    exact heap_setCell_same _ _ 1 _ _ _ (heap_setCell_same _ _ 0 _ _ _ HR5.out)
  refine bodyPost_ret (results_cell_row rfl _ _ w.heap.size _ _ _ _ rfl hnew Tryd.underlying33 rfl HI.out) rfl ⟨rfl, ?_⟩
  exact Below.drew ((hB5.setCell (p := ⟨w.heap.size, 0, none⟩) (Nat.le_refl _) _).setCell (p := ⟨w.heap.size, 1, none⟩) (Nat.le_refl _) _)
end Go.Proofs.YtgajpekolamjbaaDoor
