/- Escape: the document's. -/
import Derived.Test.YthloijpnbljpeaaDoorUtfE
import Derived.Laws.EntriesVeiled
import Derived.Laws.Tables
set_option linter.unusedVariables false
set_option linter.unusedSimpArgs false
namespace Go.Tk
open Go Go.RowKit
theorem results_tc {P : Program} {fn : Func} {p q : Tmp} {ty : TypeId} (h : fn.results = #[.tmp q, .cell p ty]) (tmps : Array Value) (w : World) (g : Nat) (t : TypeId) (cs : Array Value) (fr : Nat × Nat) (d : TypeDesc)
    (hp : tmps.getD p undef = .pointer (some ⟨g, 0, none⟩)) (hg : w.heap[g]? = some (.cells cs t fr))
    (hu : P.underlying ty = some d) (hd : (match d with | .struct _ | .array _ _ => true | _ => false) = true) (hi : (P.info? ty).map (·.size) = some cs.size) :
    (results fn tmps).run P w = .ok (.tuple #[tmps.getD q undef, .agg cs]) w := by
  have hp' : tmps[p]?.getD undef = .pointer (some ⟨g, 0, none⟩) := by simpa using hp
  simp [results, h, hp', asAddr, run_loadVar_row w g t ty cs fr d hg hu hd hi]
end Go.Tk
namespace Go.Proofs.YthloijpnbljpeaaDoor
open Go.RowKit Go.Tk
theorem Tryd.sizeFault' : (Tryd.prog.info? 30).map (·.size) = some 2 := by kernel_rfl
theorem cell_row0' {w : World} {b : Nat} {x y : Value} {t : TypeId} (h : w.heap[b]? = some (.cells #[x, y] t (0, 0))) : w.cell? ⟨b, 0, none⟩ = some x := by simp [World.cell?, h]
theorem cell_row1' {w : World} {b : Nat} {x y : Value} {t : TypeId} (h : w.heap[b]? = some (.cells #[x, y] t (0, 0))) : w.cell? ⟨b, 1, none⟩ = some y := by simp [World.cell?, h]
theorem store2 {w : World} {g : Nat} {x y u v : Value} {t : TypeId} (h : w.heap[g]? = some (.cells #[x, y] t (0, 0))) : ((w.setCell ⟨g, 0, none⟩ u).setCell ⟨g, 1, none⟩ v).heap[g]? = some (.cells #[u, v] t (0, 0)) :=
  heap_setCell_same _ _ 1 _ _ _ (heap_setCell_same _ _ 0 _ _ _ h)
set_option maxRecDepth 100000 in
set_option maxHeartbeats 4000000 in
theorem rescape_calls (s : ByteArray) (way : Int) (w : World) (hs : s.size ≤ 8000000) :
    Calls Tryd.prog 18 #[.string s, .int .i64 way] w fun e w' => e = .returned (.tuple #[.string ⟨(if 0 ≤ chkF s.data.toList 0 then [] else escF s.data.toList way).toArray⟩, .agg (if 0 ≤ chkF s.data.toList 0 then #[.int .i64 (chkF s.data.toList 0), .int .i64 40] else #[.int .i64 0, .int .i64 0])]) ∧ Below w.heap.size w w' := by
  obtain ⟨l, hl⟩ : ∃ l, l = s.data.toList := ⟨_, rfl⟩
  have hll : l.length = s.size := by rw [hl, Lib.size_eq]
  have hck := fun w => rcheck_calls s w (by omega)
  have hrn := fun (k : Nat) (w : World) => rnext_calls s (k : Int) w (by omega)
  simp only [nextI_at] at hrn
  rw [← hl] at hck hrn ⊢
  have HLL := Lib.hid hll
  have HRN := Lib.hid hrn
  clear hl hll hrn
  obtain ⟨c, hc⟩ : ∃ c, c = chkF l 0 := ⟨_, rfl⟩
  rw [← hc] at hck ⊢
  have HCK := Lib.hid hck
  have HC := Lib.hid hc
  clear hck hc
  have HI := Lib.hid Tryd.sizeFault'
  have hrow : (w.alloc (.cells #[.int .i64 0, .int .i64 0] 30)).heap[w.heap.size]? = some (.cells #[.int .i64 0, .int .i64 0] 30 (0, 0)) := heap_alloc_new w _
  have HROW := Lib.hid hrow
  have hB0 := (Below.refl w.heap.size w).alloc (Nat.le_refl _) (.cells #[.int .i64 0, .int .i64 0] 30)
  have HB0 := Lib.hid hB0
  clear hrow hB0
  by_cases c0 : 0 ≤ c
  · rw [if_pos c0, if_pos c0]
    go_enter Tryd.func18, Tryd.ntmps18
    go_wp2_with (go_at_call 26; refine (HCK.out _).mono ?_; rintro e w1 ⟨rfl, hb1⟩; (have hr1 := (hb1.block w.heap.size (by simp)).trans HROW.out); (have d0 := cell_row0' hr1); (have d1 := cell_row1' hr1); (have g0 := frozen_of_row _ _ 0 _ _ hr1); (have g1 := frozen_of_row _ _ 1 _ _ hr1); (have HR1 := Lib.hid hr1); (have HB1 := Lib.hid (HB0.out.trans (hb1.mono HB0.out.size))); clear hb1 hr1)
    refine bodyPost_ret (results_tc rfl _ _ w.heap.size _ _ _ _ rfl (store2 HR1.out) Tryd.underlying30 rfl HI.out) rfl ⟨rfl, ?_⟩
    exact (HB1.out.setCell (p := ⟨w.heap.size, 0, none⟩) (Nat.le_refl _) _).setCell (p := ⟨w.heap.size, 1, none⟩) (Nat.le_refl _) _
  · rw [if_neg c0, if_neg c0]
    have hcv : chkF l 0 = -1 := by
      rcases chkF_val l 0 (Int.le_refl _) with h | h
      · exact h
      · have := HC.out; omega
    have HCV := Lib.hid hcv
    clear hcv
    obtain ⟨i0, hi, hz0, hz1, hz2⟩ := info_parts Tryd.infoU8
    have HI0 := Lib.hid hi
    have HZ0 := Lib.hid hz0
    have HZ1 := Lib.hid hz1
    have HZ2 := Lib.hid hz2
    clear hi hz0 hz1 hz2
    go_enter Tryd.func18, Tryd.ntmps18
    go_wp2_with (go_at_call 26; refine (HCK.out _).mono ?_; rintro e w1 ⟨rfl, hb1⟩; (have HR1 := Lib.hid ((hb1.block w.heap.size (by simp)).trans HROW.out)); (have HB1 := Lib.hid (HB0.out.trans (hb1.mono HB0.out.size))); (have HS1 := Lib.hid (show w.heap.size + 1 ≤ w1.heap.size by have := hb1.size; simpa using this)); clear hb1)
    go_loopw [6, 7, 8, 9] (fun iv ov _ _ wr => ∃ (k : Nat) (acc : List UInt8), iv = .int .i64 (k : Nat) ∧ Ow .u8 5 (w.heap.size + 1) wr ov (nums acc) ∧ wr.heap[w.heap.size]? = some (.cells #[.int .i64 0, .int .i64 0] 30 (0, 0)) ∧ Below w.heap.size w wr ∧ acc ++ escF (l.drop k) way = escF l way ∧ chkF (l.drop k) k = -1 ∧ k ≤ s.size ∧ acc.length ≤ 6 * k ∧ w.heap.size + 1 ≤ wr.heap.size) (fun iv _ _ _ _ => s.size - (intOf iv).toNat)
    case atStart => exact ⟨0, [], rfl, Ow.nil _ _ _ _, HR1.out, HB1.out, rfl, HCV.out, Nat.zero_le _, by simp, HS1.out⟩
    case round =>
      obtain ⟨k, acc, rfl, how, hr, hbw, hacc, hchk, hps, hal, hsz⟩ := hrel
      by_cases hp : k < s.size
      · obtain ⟨d1, d2, d3⟩ := chk_ok hchk (by rw [HLL.out]; exact hp)
        obtain ⟨R, n, hd⟩ : ∃ R n, dec (l.drop k) = (R, n) := ⟨_, _, rfl⟩
        have hst := escF_step way d1
        obtain ⟨hR, _, _⟩ := dec_yes hd (by rw [hd] at d1; exact d1)
        have hcall := HRN.out k
        rw [hd] at hst d1 d2 d3 hcall
        simp only at hst d1 d2 d3 hcall
        rw [HLL.out] at d2
        rw [List.drop_drop] at hst
        have hwl := wrB_len R way
        have HR := Lib.hid hR
        have HA := Lib.hid hacc
        have HS := Lib.hid hst
        have D3 := Lib.hid d3
        have HCALL := Lib.hid hcall
        have HOW := Lib.hid how
        have HRR := Lib.hid hr
        have HBW := Lib.hid hbw
        clear hacc hst d3 hR hd hchk hcall how hr hbw
        go_wp2_with (first
          | (go_at_call 31; refine (HCALL.out _).mono ?_; rintro e w2 ⟨rfl, hb2⟩; (have HOW2 := Lib.hid (HOW.out.below hb2 (fun g hg => (HOW.out.lt g hg).2))); (have HRR2 := Lib.hid ((hb2.block _ (by omega)).trans HRR.out)); (have HBW2 := Lib.hid (HBW.out.trans (hb2.mono HBW.out.size))); (have hsz2 := Nat.le_trans hsz hb2.size); clear hb2)
          | (go_at_call 32; refine (rwritten_calls R way _ HR.out).mono ?_; rintro e w3 ⟨rfl, hb3⟩; (have HOW3 := Lib.hid (HOW2.out.below hb3 (fun g hg => (HOW2.out.lt g hg).2))); (have HRR3 := Lib.hid ((hb3.block _ (by omega)).trans HRR2.out)); (have HBW3 := Lib.hid (HBW2.out.trans (hb3.mono HBW2.out.size))); (have hsz3 := Nat.le_trans hsz2 hb3.size); clear hb3)
          | (at_builtin; go_loud (refine Lib.wpList_append_own_string _ rfl _ _ 28 9 rfl (w.heap.size + 1) 5 i0 Tryd.underlying28 Tryd.underlying9 HI0.out HZ0.out HZ1.out HZ2.out _ _ _ rfl HOW3.out ⟨(wrB R way).toArray⟩ rfl (by rw [nums_len, Lib.size_eq]; unfold maxLen; simp; omega) (by rw [nums_len, Lib.size_eq]; simp; omega) hsz3 ?_; intro v4 w4 how4 hg4 _; (have HOW4 := Lib.hid (ow_str how4)); (have HRR4 := Lib.hid ((hg4.block w.heap.size (by omega) (fun e => by have := (HOW3.out.lt _ e.symm).1; omega)).trans HRR3.out)); (have HBW4 := Lib.hid (HBW3.out.grown hg4 HBW3.out.size (fun g hg => by have := (HOW3.out.lt g hg).1; omega))); (have hsz4 := Nat.le_trans hsz3 hg4.size); clear how4 hg4)))
        go_roundw
        case rel =>
          refine ⟨k + n, acc ++ wrB R way, by go_num, HOW4.out, HRR4.out, HBW4.out, ?_, D3.out, d2, by simp; omega, hsz4⟩
          rw [List.append_assoc, ← HS.out]; exact HA.out
        case measure => simp [intOf]; omega
      · have hz : l.drop k = [] := List.drop_of_length_le (by rw [HLL.out]; omega)
        rw [hz, escF_nil, List.append_nil] at hacc
        obtain ⟨a, cc, rfl, hsl, _⟩ := how.sl
        have hcv := SlI.bytes (P := Tryd.prog) Tryd.underlying28 Tryd.underlying5 Tryd.underlying9 (b := acc) (by rw [nums_len] at hsl; exact hsl)
        rw [nums_len]
        have d0 := cell_row0' hr
        have d1 := cell_row1' hr
        have g0 := frozen_of_row _ _ 0 _ _ hr
        have g1 := frozen_of_row _ _ 1 _ _ hr
        have HA := Lib.hid hacc
        have HBW := Lib.hid hbw
        have HRR := Lib.hid hr
        clear hacc hbw hz hchk hr hsl how
        go_wp2
        refine bodyPost_ret (results_tc rfl _ _ w.heap.size _ _ _ _ rfl (store2 HRR.out) Tryd.underlying30 rfl HI.out) rfl ⟨by rw [← HA.out]; rfl, (HBW.out.setCell (p := ⟨w.heap.size, 0, none⟩) (Nat.le_refl _) _).setCell (p := ⟨w.heap.size, 1, none⟩) (Nat.le_refl _) _⟩
end Go.Proofs.YthloijpnbljpeaaDoor
