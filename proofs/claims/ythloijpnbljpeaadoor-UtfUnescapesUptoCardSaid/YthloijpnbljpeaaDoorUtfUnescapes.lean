/- UtfUnescapes: Unescape of any text, in any way: the program's answer is the document's. -/
import Derived.Test.YthloijpnbljpeaaDoorUtfUR
import Derived.Test.YthloijpnbljpeaaDoorFlt
import Derived.Deep.CutBlock
import Derived.BigQuiet
import Derived.Test.YthloijpnbljpeaaDoorQu
set_option linter.unusedVariables false
set_option linter.unusedSimpArgs false
namespace Go.Proofs.YthloijpnbljpeaaDoor
open Go.RowKit Go.Tk
set_option maxRecDepth 100000 in
set_option maxHeartbeats 4000000 in
theorem core_Unescape (w : World) (s : ByteArray) (way : Int) (hg : HandleMet w) (A : ByteArray) (x y : Int)
    (hu : ∀ w, Calls Tryd.prog 19 #[.string s, .int .i64 way] w fun e w' => ∃ v, e = .returned (.tuple #[.string A, v]) ∧ EV w' v x y ∧ Below w.heap.size w w')
    (hr : ∀ w, Calls Tryd.prog 20 #[.string s, .int .i64 way] w fun e w' => e = .returned (.tuple #[.string A, .agg #[.int .i64 x, .int .i64 y]]) ∧ Below w.heap.size w w') :
    Calls Tryd.prog 5 #[.string s, .int .i64 way] w fun e w' => e = .returned (.bool true) ∧ Below w.heap.size w w' := by
  have HG := Lib.hid hg
  have HU := Lib.hid hu
  have HR := Lib.hid hr
  have HI := Lib.hid Tryd.sizeFault'
  clear hu hr hg
  go_enter Tryd.func5, Tryd.ntmps5
  go_upto_region 3 with (first
    | (go_at_call 19; refine (HU.out _).mono ?_; rintro e w1 ⟨v, rfl, hv, hb1⟩; (have HB1 := Lib.hid hb1); (have HV := Lib.hid hv); clear hb1 hv)
    | (go_at_call 20; refine (HR.out _).mono ?_; rintro e w2 ⟨rfl, hb2⟩; (have HB2 := Lib.hid hb2); clear hb2))
  have hrow : (w2.alloc (.cells #[.int .i64 x, .int .i64 y] 30)).heap[w2.heap.size]? = some (.cells #[.int .i64 x, .int .i64 y] 30 (0, 0)) := heap_alloc_new _ _
  have hB3 := (HB1.out.trans (HB2.out.mono HB1.out.size)).alloc (HB1.out.trans (HB2.out.mono HB1.out.size)).size (.cells #[.int .i64 x, .int .i64 y] 30)
  have hg3 := HandleMet.below HG.out hB3 HG.out.pos
  have hv3 := (HV.out.below HB2.out).below ((Below.refl _ _).alloc (Nat.le_refl _) (.cells #[.int .i64 x, .int .i64 y] 30))
  generalize w2.alloc (.cells #[.int .i64 x, .int .i64 y] 30) = W3 at hrow hB3 hg3 hv3 ⊢
  refine wp_region_quiet_all (fun w' => HandleMet w' ∧ EV w' v x y ∧ w'.heap[w2.heap.size]? = some (.cells #[.int .i64 x, .int .i64 y] 30 (0, 0)) ∧ Below w.heap.size w w') (by kernel_rfl) (by kernel_rfl) ⟨hg3, hv3, hrow, Below.drew hB3⟩ ?_
  clear hrow hB3 hg3 hv3
  refine wq_val v rfl (fun w' _ => by simp [go_sem]) ?_
  refine wq_call (.agg #[.int .i64 x, .int .i64 y]) _ _ rfl (fun w' => by simp [go_sem]) (fun w' h => (fault_calls w' v x y h.1 h.2.1).mono fun _ w'' ⟨h1, h2⟩ => ⟨h1, h.1.below h2 h.1.pos, h.2.1.below h2, (h2.block _ (lt_of_block h.2.2.1)).trans h.2.2.1, h.2.2.2.trans (h2.mono h.2.2.2.size)⟩) ?_
  refine wq_row rfl 30 _ rfl w2.heap.size rfl _ #[.int .i64 x, .int .i64 y] _ _ (fun w' h => h.2.2.1) Tryd.underlying30 rfl HI.out ?_
  refine wq_val (.bool true) rfl (fun w' _ => by have h1 := fl_eql x y w'; have h2 := fl_guarded; simp [go_sem, h1, h2]) ?_
  simp only [go_sem, List.setIfInBounds_toArray, List.set_cons_succ, List.set_cons_zero]
  repeat (go_big_quiet_step (fail))
  refine wq_valG (.bool true) (by simp [Region.wanted, yielded]) (fun w' _ => by simp [go_sem]) ?_
  simp only [go_sem, List.setIfInBounds_toArray, List.set_cons_succ, List.set_cons_zero]
  refine wq_val (.bool true) rfl (fun w' _ => by simp [go_sem]) ?_
  simp only [go_sem, List.setIfInBounds_toArray, List.set_cons_succ, List.set_cons_zero]
  refine wq_val (.bool true) rfl (fun w' _ => by simp [go_sem]) ?_
  simp only [go_sem, List.setIfInBounds_toArray, List.set_cons_succ, List.set_cons_zero]
  refine wpQuiet_nil ?_
  rintro w4 ⟨_, _, _, hb4⟩
  go_wp2_with fail
  go_ret
  exact ⟨rfl, hb4⟩
theorem utfunescapes_go (w : World) (s : ByteArray) (way : Int) (hs : s.size ≤ 8000000) (hg : HandleMet w) :
    Calls Tryd.prog 5 #[.string s, .int .i64 way] w fun e w' => e = .returned (.bool true) ∧ Below w.heap.size w w' :=
  core_Unescape w s way hg ⟨(unF s.data.toList 0 way).1.toArray⟩ (unF s.data.toList 0 way).2.1 (unF s.data.toList 0 way).2.2 (fun w => uunescape_calls s way w hs) (fun w => runescape_calls s way w hs)
theorem utfunescapes_up (w : World) (s : ByteArray) (hs : s.size ≤ 1048576) (way : Int) (_ : (Lit.int .i64 way).wf = true) (hg : HandleMet w) :
    Calls Tryd.prog 5 #[.string s, .int .i64 way] w fun e w' => e = .returned (.bool true) ∧ Below w.heap.size w w' := utfunescapes_go w s way (by omega) hg
end Go.Proofs.YthloijpnbljpeaaDoor
