/- Split: the program's, the document's. -/
import Derived.Test.YthdkhlkmcebfeaaIriPt
import Derived.Test.YthdkhlkmcebfeaaIriRef
set_option linter.unusedVariables false
set_option linter.unusedSimpArgs false
namespace Go.Tk
open Go Go.RowKit
theorem results_rt {P : Program} {fn : Func} {p q : Tmp} {ty : TypeId} (h : fn.results = #[.cell p ty, .tmp q]) (tmps : Array Value) (w : World) (g : Nat) (t : TypeId) (cs : Array Value) (fr : Nat × Nat) (d : TypeDesc)
    (hp : tmps.getD p undef = .pointer (some ⟨g, 0, none⟩)) (hg : w.heap[g]? = some (.cells cs t fr))
    (hu : P.underlying ty = some d) (hd : (match d with | .struct _ | .array _ _ => true | _ => false) = true) (hi : (P.info? ty).map (·.size) = some cs.size) :
    (results fn tmps).run P w = .ok (.tuple #[.agg cs, tmps.getD q undef]) w := by
  have hp' : tmps[p]?.getD undef = .pointer (some ⟨g, 0, none⟩) := by simpa using hp
  simp [results, h, hp', asAddr, run_loadVar_row w g t ty cs fr d hg hu hd hi]
theorem refE_size {s : ByteArray} (h : refE s.data.toList = 0) : s.size ≤ 65536 := by
  unfold refE at h
  rw [Lib.size_eq]
  split at h
  · simp at h
  · omega
end Go.Tk
namespace Go.Proofs.Ythdkhlkmcebfeaa
open Go.RowKit Go.Tk
theorem split2_calls (s : ByteArray) (w : World) (hs : s.size ≤ 9223372036854770000) :
    Calls Try.prog 22 #[.string s] w fun e w' => e = .returned (.tuple #[(if refE s.data.toList = 0 then splitP s.data.toList else P0).val, .int .i64 (refE s.data.toList)]) ∧ Below w.heap.size w w' := by
  have hrf := reference_calls s (hs := hs)
  have hsz : refE s.data.toList = 0 → s.size ≤ 65536 := refE_size
  obtain ⟨r, hr⟩ : ∃ r, r = refE s.data.toList := ⟨_, rfl⟩
  rw [← hr] at hrf hsz ⊢
  obtain ⟨pv, hpv⟩ : ∃ pv : Prts, pv = if r = 0 then splitP s.data.toList else P0 := ⟨_, rfl⟩
  rw [← hpv]
  have HRF := Lib.hid hrf
  have HSZ := Lib.hid hsz
  have HPV := Lib.hid hpv
  have hi8 : (Try.prog.info? 34).map (·.size) = some 8 := by kernel_rfl
  have HI8 := Lib.hid hi8
  have ha : (w.alloc (.cells P0.cells 34)).heap[w.heap.size]? = some (.cells P0.cells 34 (0, 0)) := heap_alloc_new _ _
  have hba : Below w.heap.size w (w.alloc (.cells P0.cells 34)) := (Below.refl _ _).alloc (Nat.le_refl _) _
  have fin : ∀ w1 : World, w1.heap[w.heap.size]? = some (.cells P0.cells 34 (0, 0)) → Below w.heap.size w w1 → (w1.setRow w.heap.size pv.cells).heap[w.heap.size]? = some (.cells pv.cells 34 (0, 0)) ∧ Below w.heap.size w (w1.setRow w.heap.size pv.cells) := fun w1 h hb =>
    ⟨setRow_heap w1 w.heap.size _ pv.cells _ _ h, hb.os, hb.tape, hb.output, by simpa using hb.size, fun k hk => (setRow_other w1 w.heap.size k _ (by omega)).trans (hb.block k hk)⟩
  have FIN := Lib.hid fin
  have HA := Lib.hid ha
  have HBA := Lib.hid hba
  clear hrf hsz hr hpv hi8 ha hba fin
  by_cases h0 : r = 0
  · subst h0
    have hz := HSZ.out rfl
    have hsp := split_calls s (hs := by omega)
    have hpv : pv = splitP s.data.toList := by rw [HPV.out, if_pos rfl]
    rw [← hpv] at hsp
    have HSP := Lib.hid hsp
    clear hsp hpv
    go_enter Try.func22, Try.ntmps22
    go_wp2_with fail
    refine (HRF.out _).mono ?_
    rintro e w1 ⟨rfl, hb1⟩
    have r1 := (hb1.block w.heap.size (by simp)).trans HA.out
    have b1 := HBA.out.trans (hb1.mono (by simp))
    have R1 := Lib.hid r1
    have hlt1 := lt_of_block r1
    clear r1 hb1
    go_wp2_with fail
    refine (HSP.out _).mono ?_
    rintro e w2 ⟨rfl, hb2⟩
    have r2 := (hb2.block w.heap.size hlt1).trans R1.out
    have b2 := b1.trans (hb2.mono b1.size)
    obtain ⟨hnew, hbn⟩ := FIN.out w2 r2 b2
    have R2 := Lib.hid r2
    have HNEW := Lib.hid hnew
    clear r2 hb2 hnew
    unfold Prts.val
    go_wp2_with (refine wpList_store_row rfl 34 _ _ rfl w.heap.size _ rfl rfl _ _ R2.out HI8.out rfl (Prts.one pv) ?_)
    refine bodyPost_ret (results_rt rfl _ _ w.heap.size _ _ _ _ rfl HNEW.out Try.underlying34 rfl HI8.out) rfl ⟨rfl, hbn⟩
  · have e0 : (r != 0) = true := by rw [bne_iff_ne]; exact h0
    have hpv : P0 = pv := by rw [HPV.out, if_neg h0]
    have HPP := Lib.hid hpv
    clear h0 hpv
    go_enter Try.func22, Try.ntmps22
    go_wp2_with fail
    refine (HRF.out _).mono ?_
    rintro e w1 ⟨rfl, hb1⟩
    have r1 := (hb1.block w.heap.size (by simp)).trans HA.out
    have b1 := HBA.out.trans (hb1.mono (by simp))
    have R1 := Lib.hid r1
    obtain ⟨hnew, hbn⟩ := FIN.out w1 r1 b1
    have HNEW := Lib.hid hnew
    clear r1 hb1 hnew
    go_wp2_with (refine wpList_store_row rfl 34 _ _ rfl w.heap.size P0.cells rfl rfl _ _ R1.out HI8.out rfl (Prts.one P0) ?_)
    rw [HPP.out]
    refine bodyPost_ret (results_rt rfl _ _ w.heap.size _ _ _ _ rfl HNEW.out Try.underlying34 rfl HI8.out) rfl ⟨rfl, hbn⟩
theorem rsplit2_calls (s : ByteArray) (w : World) (hs : s.size ≤ 9223372036854770000) :
    Calls Try.prog 23 #[.string s] w fun e w' => e = .returned (.tuple #[(if refE s.data.toList = 0 then splitP s.data.toList else P0).val, .int .i64 (refE s.data.toList)]) ∧ Below w.heap.size w w' := by
  have hrf := rreference_calls s (hs := hs)
  have hsz : refE s.data.toList = 0 → s.size ≤ 65536 := refE_size
  obtain ⟨r, hr⟩ : ∃ r, r = refE s.data.toList := ⟨_, rfl⟩
  rw [← hr] at hrf hsz ⊢
  obtain ⟨pv, hpv⟩ : ∃ pv : Prts, pv = if r = 0 then splitP s.data.toList else P0 := ⟨_, rfl⟩
  rw [← hpv]
  have HRF := Lib.hid hrf
  have HSZ := Lib.hid hsz
  have HPV := Lib.hid hpv
  have hi8 : (Try.prog.info? 34).map (·.size) = some 8 := by kernel_rfl
  have HI8 := Lib.hid hi8
  have ha : (w.alloc (.cells P0.cells 34)).heap[w.heap.size]? = some (.cells P0.cells 34 (0, 0)) := heap_alloc_new _ _
  have hba : Below w.heap.size w (w.alloc (.cells P0.cells 34)) := (Below.refl _ _).alloc (Nat.le_refl _) _
  have fin : ∀ w1 : World, w1.heap[w.heap.size]? = some (.cells P0.cells 34 (0, 0)) → Below w.heap.size w w1 → (w1.setRow w.heap.size pv.cells).heap[w.heap.size]? = some (.cells pv.cells 34 (0, 0)) ∧ Below w.heap.size w (w1.setRow w.heap.size pv.cells) := fun w1 h hb =>
    ⟨setRow_heap w1 w.heap.size _ pv.cells _ _ h, hb.os, hb.tape, hb.output, by simpa using hb.size, fun k hk => (setRow_other w1 w.heap.size k _ (by omega)).trans (hb.block k hk)⟩
  have FIN := Lib.hid fin
  have HA := Lib.hid ha
  have HBA := Lib.hid hba
  clear hrf hsz hr hpv hi8 ha hba fin
  by_cases h0 : r = 0
  · subst h0
    have hz := HSZ.out rfl
    have hsp := parts_calls s (hs := by omega)
    have hpv : pv = splitP s.data.toList := by rw [HPV.out, if_pos rfl]
    rw [← hpv] at hsp
    have HSP := Lib.hid hsp
    clear hsp hpv
    go_enter Try.func23, Try.ntmps23
    go_wp2_with fail
    refine (HRF.out _).mono ?_
    rintro e w1 ⟨rfl, hb1⟩
    have r1 := (hb1.block w.heap.size (by simp)).trans HA.out
    have b1 := HBA.out.trans (hb1.mono (by simp))
    have R1 := Lib.hid r1
    have hlt1 := lt_of_block r1
    clear r1 hb1
    go_wp2_with fail
    refine (HSP.out _).mono ?_
    rintro e w2 ⟨rfl, hb2⟩
    have r2 := (hb2.block w.heap.size hlt1).trans R1.out
    have b2 := b1.trans (hb2.mono b1.size)
    obtain ⟨hnew, hbn⟩ := FIN.out w2 r2 b2
    have R2 := Lib.hid r2
    have HNEW := Lib.hid hnew
    clear r2 hb2 hnew
    unfold Prts.val
    go_wp2_with (refine wpList_store_row rfl 34 _ _ rfl w.heap.size _ rfl rfl _ _ R2.out HI8.out rfl (Prts.one pv) ?_)
    refine bodyPost_ret (results_rt rfl _ _ w.heap.size _ _ _ _ rfl HNEW.out Try.underlying34 rfl HI8.out) rfl ⟨rfl, hbn⟩
  · have e0 : (r != 0) = true := by rw [bne_iff_ne]; exact h0
    have hpv : P0 = pv := by rw [HPV.out, if_neg h0]
    have HPP := Lib.hid hpv
    clear h0 hpv
    go_enter Try.func23, Try.ntmps23
    go_wp2_with fail
    refine (HRF.out _).mono ?_
    rintro e w1 ⟨rfl, hb1⟩
    have r1 := (hb1.block w.heap.size (by simp)).trans HA.out
    have b1 := HBA.out.trans (hb1.mono (by simp))
    have R1 := Lib.hid r1
    obtain ⟨hnew, hbn⟩ := FIN.out w1 r1 b1
    have HNEW := Lib.hid hnew
    clear r1 hb1 hnew
    go_wp2_with (refine wpList_store_row rfl 34 _ _ rfl w.heap.size P0.cells rfl rfl _ _ R1.out HI8.out rfl (Prts.one P0) ?_)
    rw [HPP.out]
    refine bodyPost_ret (results_rt rfl _ _ w.heap.size _ _ _ _ rfl HNEW.out Try.underlying34 rfl HI8.out) rfl ⟨rfl, hbn⟩
end Go.Proofs.Ythdkhlkmcebfeaa
