/- TreeAnswers: every answer of two trees, by Open and by View. -/
import Derived.Test.YtgajpekolamjbaaTyA
import Derived.Test.YtgajpekolamjbaaTyK
import Derived.Test.YtgajpekolamjbaaSlB
import Derived.Test.YtgajpekolamjbaaHeD
set_option linter.unusedVariables false
set_option linter.unusedSimpArgs false
namespace Go.Proofs.Ytgajpekolamjbaa
open Go.RowKit Go.Tk
set_option maxRecDepth 100000 in
set_option maxHeartbeats 16000000 in
theorem tanswers_go (w : World) (a0 : Option Addr) (n0 c0 : Nat) (L0 : List Qd) (h0 : SlQ w a0 n0 c0 L0) (hn0 : n0 ≤ 4398046510976) (a1 : Option Addr) (n1 c1 : Nat) (L1 : List Qd) (h1 : SlQ w a1 n1 c1 L1) (hn1 : n1 ≤ 4398046510976)
    (a2 : Option Addr) (n2 c2 : Nat) (asks : Nat → AskV) (h2 : AsksAt w a2 n2 c2 asks) (a3 : Option Addr) (n3 c3 : Nat) (l3 : List Bool) (h3 : SlB w a3 n3 c3 l3) :
    Calls Try.prog 4 #[.slice a0 n0 c0, .slice a1 n1 c1, .slice a2 n2 c2, .slice a3 n3 c3] w fun e w' => e = .returned (.bool true) ∧ Below w.heap.size w w' := by
  have H0 := Lib.hid h0
  have H1 := Lib.hid h1
  have H2 := Lib.hid h2
  have H3 := Lib.hid h3
  clear h0 h1 h2 h3
  have HRI0 := Lib.hid (rising_calls w a0 n0 c0 L0 H0.out hn0)
  have HRI1 := Lib.hid (fun W (hb : Below w.heap.size w W) => rising_calls W a1 n1 c1 L1 (H1.out.keep hb) hn1)
  obtain ⟨R0, hR0⟩ : ∃ R, R = risL L0 := ⟨_, rfl⟩
  obtain ⟨R1, hR1⟩ : ∃ R, R = risL L1 := ⟨_, rfl⟩
  rw [← hR0] at HRI0
  simp only [← hR1] at HRI1
  have HRR0 := Lib.hid hR0
  have HRR1 := Lib.hid hR1
  clear hR0 hR1
  go_enter Try.func4, Try.ntmps4
  go_wp2_with (first
    | (go_at_call 14; (with_reducible refine HRI0.out.mono ?_); rintro e w1 ⟨v0, rfl, how, hb1⟩; obtain ⟨ra0, rc0, rfl, hrs, hrn⟩ := how.sl; (have HRS0 := Lib.hid hrs); (have HB1 := Lib.hid hb1); clear how hrs hb1 hrn)
    | (go_at_call 14; (with_reducible refine (HRI1.out w1 HB1.out).mono ?_); rintro e w2 ⟨v1, rfl, how, hb2⟩; obtain ⟨ra1, rc1, rfl, hrs, hrn⟩ := how.sl; (have HRS1 := Lib.hid hrs); (have HRS0' := Lib.hid (HRS0.out.keep hb2)); (have HB2 := Lib.hid (HB1.out.trans (hb2.mono HB1.out.size))); clear how hrs hb2 hrn))
  have ha : AR w2 (((((w2.alloc (.cells #[.slice ra0 R0.length rc0, .slice ra1 R1.length rc1] 38)).alloc (.cells #[.pointer none, .pointer none] 40)).alloc (.cells #[.pointer none, .pointer none] 40)).alloc (.cells #[.slice none 0 0, .slice none 0 0] 41)).alloc (.cells #[.slice none 0 0, .slice none 0 0] 41)) w2.heap.size #[.slice ra0 R0.length rc0, .slice ra1 R1.length rc1] #[.pointer none, .pointer none] #[.pointer none, .pointer none] #[.slice none 0 0, .slice none 0 0] #[.slice none 0 0, .slice none 0 0] := by
    refine ⟨?_, ?_, ?_, ?_, ?_, noU8_two (fun k e => by cases e) (fun k e => by cases e), noU8_two (fun k e => by cases e) (fun k e => by cases e), noU8_two (fun k e => by cases e) (fun k e => by cases e), noU8_two (fun k e => by cases e) (fun k e => by cases e), ?_, Nat.le_refl _⟩
    · exact (Below.heap_alloc _ _ _ (by simp <;> omega)).trans ((Below.heap_alloc _ _ _ (by simp <;> omega)).trans ((Below.heap_alloc _ _ _ (by simp <;> omega)).trans ((Below.heap_alloc _ _ _ (by simp <;> omega)).trans (heap_alloc_new _ _))))
    · refine (Below.heap_alloc _ _ _ (by simp <;> omega)).trans ((Below.heap_alloc _ _ _ (by simp <;> omega)).trans ((Below.heap_alloc _ _ _ (by simp <;> omega)).trans ?_))
      have := heap_alloc_new (w2.alloc (.cells #[.slice ra0 R0.length rc0, .slice ra1 R1.length rc1] 38)) (.cells #[.pointer none, .pointer none] 40)
      simpa using this
    · refine (Below.heap_alloc _ _ _ (by simp <;> omega)).trans ((Below.heap_alloc _ _ _ (by simp <;> omega)).trans ?_)
      have := heap_alloc_new ((w2.alloc (.cells #[.slice ra0 R0.length rc0, .slice ra1 R1.length rc1] 38)).alloc (.cells #[.pointer none, .pointer none] 40)) (.cells #[.pointer none, .pointer none] 40)
      simpa [Nat.add_assoc] using this
    · refine (Below.heap_alloc _ _ _ (by simp <;> omega)).trans ?_
      have := heap_alloc_new (((w2.alloc (.cells #[.slice ra0 R0.length rc0, .slice ra1 R1.length rc1] 38)).alloc (.cells #[.pointer none, .pointer none] 40)).alloc (.cells #[.pointer none, .pointer none] 40)) (.cells #[.slice none 0 0, .slice none 0 0] 41)
      simpa [Nat.add_assoc] using this
    · have := heap_alloc_new ((((w2.alloc (.cells #[.slice ra0 R0.length rc0, .slice ra1 R1.length rc1] 38)).alloc (.cells #[.pointer none, .pointer none] 40)).alloc (.cells #[.pointer none, .pointer none] 40)).alloc (.cells #[.slice none 0 0, .slice none 0 0] 41)) (.cells #[.slice none 0 0, .slice none 0 0] 41)
      simpa [Nat.add_assoc] using this
    · exact (((((Below.refl _ w2).alloc (Nat.le_refl _) _).alloc (by simp) _).alloc (by simp; omega) _).alloc (by simp; omega) _).alloc (by simp; omega) _
  have hwl : (((((w2.alloc (.cells #[.slice ra0 R0.length rc0, .slice ra1 R1.length rc1] 38)).alloc (.cells #[.pointer none, .pointer none] 40)).alloc (.cells #[.pointer none, .pointer none] 40)).alloc (.cells #[.slice none 0 0, .slice none 0 0] 41)).alloc (.cells #[.slice none 0 0, .slice none 0 0] 41)).heap.size = w2.heap.size + 5 := by simp
  simp only [Nat.add_assoc, Nat.reduceAdd]
  generalize (((((w2.alloc (.cells #[.slice ra0 R0.length rc0, .slice ra1 R1.length rc1] 38)).alloc (.cells #[.pointer none, .pointer none] 40)).alloc (.cells #[.pointer none, .pointer none] 40)).alloc (.cells #[.slice none 0 0, .slice none 0 0] 41)).alloc (.cells #[.slice none 0 0, .slice none 0 0] 41)) = V0 at ha hwl ⊢
  generalize hb9 : w2.heap.size = b at ha hwl ⊢
  have HB9 := Lib.hid hb9
  clear hb9
  have HA0 := Lib.hid ha
  have hsz0 : b + 5 ≤ V0.heap.size := by omega
  clear ha hwl HRI0 HRI1 HRS0 HB1
  refine wp_loop_rounds 3 ?_
  rw [rounds_succ]
  have k90 : V0.cell? ⟨b, 0, none⟩ = some (.slice ra0 R0.length rc0) := cell_of_row V0 b 0 _ _ _ HA0.out.r9
  by_cases hle0 : R0.length ≤ 1048576
  rotate_left
  · have e90 : decide ((1048576 : Int) < (R0.length : Int)) = true := decide_eq_true (by omega)
    have HBE := Lib.hid (HB2.out.trans (HA0.out.bl.mono HB2.out.size))
    go_wp2_with fail
    go_ret
    exact ⟨rfl, HBE.out⟩
  have e90 : decide ((1048576 : Int) < (R0.length : Int)) = false := decide_eq_false (by omega)
  have hG0 : Right R0 := by rw [HRR0.out] at hle0 ⊢; exact ris_right hle0
  have HG0 := Lib.hid hG0
  obtain ⟨bs0, hbs0⟩ := bytes_of (treeB_rg hG0).1
  have hbl0 : bs0.length ≤ 67108864 := by have := (treeB_rg hG0).2; rw [← hbs0, nums_len] at this; exact this
  have HBS0 := Lib.hid hbs0
  clear hG0 hbs0
  have HRB0 := Lib.hid (rbuild_good V0 ra0 rc0 R0 HG0.out (HRS0'.out.keep HA0.out.bl) bs0 HBS0.out)
  go_upto_region 12 with (go_at_call 10; (with_reducible refine HRB0.out.mono ?_); rintro e Ww0 ⟨aw0, cw0, rfl, hsw, hown, hb⟩; (have HSW0 := Lib.hid hsw); (have HOW0 := Lib.hid hown); (have HBB0 := Lib.hid hb); clear hsw hown hb)
  have haw0 : AR w2 Ww0 b (#[.slice ra0 R0.length rc0, .slice ra1 R1.length rc1]) (#[.pointer none, .pointer none]) (#[.pointer none, .pointer none]) (#[.slice none 0 0, .slice none 0 0]) (#[.slice none 0 0, .slice none 0 0]) := HA0.out.below HBB0.out
  have k130 := cell_of_row Ww0 (b + 4) 0 _ _ _ haw0.r13
  have f130 := fz_row (i := 0) haw0.r13
  have HAW0 := Lib.hid haw0
  have hzw0 := HBB0.out.size
  
  clear haw0 k90
  go_upto_region 13 with fail
  have hd0 : AR w2 (Ww0.setCell ⟨b + 4, 0, none⟩ (.slice aw0 bs0.length cw0)) b (#[.slice ra0 R0.length rc0, .slice ra1 R1.length rc1]) (#[.pointer none, .pointer none]) (#[.pointer none, .pointer none]) (#[.slice none 0 0, .slice none 0 0]) (#[.slice aw0 bs0.length cw0, .slice none 0 0]) := HAW0.out.s13 0 (fun k e => by cases e)
  have hsd0 := sl_keptT HSW0.out (kept_setA (w := Ww0) (b + 4) 0 (.slice aw0 bs0.length cw0)) (fun j e => by rw [e]; exact row_noU8 HAW0.out.r13 HAW0.out.n13)
  have hszd0 : b + 5 ≤ (Ww0.setCell ⟨b + 4, 0, none⟩ (.slice aw0 bs0.length cw0)).heap.size := by simp; omega
  
  generalize Ww0.setCell ⟨b + 4, 0, none⟩ (.slice aw0 bs0.length cw0) = Wd0 at hd0 hsd0 hszd0  ⊢
  have HD0 := Lib.hid hd0
  have HSD0 := Lib.hid hsd0
  
  have HLT0 := Lib.hid (lent18_calls Wd0 aw0 bs0.length cw0 (nums bs0) hsd0 (by omega))
  clear k130 f130 HAW0 HSW0 HOW0 HBB0 HRB0 hd0 hsd0 
  go_upto_region 14 with (go_at_call 15; (with_reducible refine HLT0.out.mono ?_); rintro e Wl0 ⟨rfl, hf⟩; (have HF0 := Lib.hid hf); (have HL0' := Lib.hid (HD0.out.below hf.below)); (have k120 := cell_of_row Wl0 (b + 3) 0 _ _ _ HL0'.out.r12); (have f120 := fz_row (i := 0) HL0'.out.r12); (have HSL0 := Lib.hid (HSD0.out.keep hf.below)); clear hf)
  have hvl0 : AR w2 (Wl0.setCell ⟨b + 3, 0, none⟩ (.slice (some ⟨Wd0.heap.size, 0, none⟩) bs0.length (bs0.length + 2))) b (#[.slice ra0 R0.length rc0, .slice ra1 R1.length rc1]) (#[.pointer none, .pointer none]) (#[.pointer none, .pointer none]) (#[.slice (some ⟨Wd0.heap.size, 0, none⟩) bs0.length (bs0.length + 2), .slice none 0 0]) (#[.slice aw0 bs0.length cw0, .slice none 0 0]) := HL0'.out.s12 0 (fun k e => by cases e)
  have hno0 : ∀ j, j = b + 3 → ∀ (o : Nat) (k : Int), Wl0.cell? ⟨j, o, none⟩ ≠ some (.int .u8 k) := fun j e => by rw [e]; exact row_noU8 HL0'.out.r12 HL0'.out.n12
  have hro0 := row_keptS HF0.out.row (kept_setA (w := Wl0) (b + 3) 0 (.slice (some ⟨Wd0.heap.size, 0, none⟩) bs0.length (bs0.length + 2))) (by omega)
  have hso0 := sl_keptT HSL0.out (kept_setA (w := Wl0) (b + 3) 0 (.slice (some ⟨Wd0.heap.size, 0, none⟩) bs0.length (bs0.length + 2))) hno0
  
  clear HF0 HL0' k120 f120 HLT0 HD0 HSD0 HSL0 hno0 
  generalize Wl0.setCell ⟨b + 3, 0, none⟩ (.slice (some ⟨Wd0.heap.size, 0, none⟩) bs0.length (bs0.length + 2)) = Wo0 at hvl0 hro0 hso0  ⊢
  generalize Wd0.heap.size = go0 at hvl0 hro0 hszd0  ⊢
  have HVL0 := Lib.hid hvl0
  have HRO0 := Lib.hid hro0
  have HSO0 := Lib.hid hso0
  
  have hown0 := own_slA hro0 (nums_len bs0) (by omega)
  have k120 : Wo0.cell? ⟨b + 3, 0, none⟩ = some (.slice (some ⟨go0, 0, none⟩) bs0.length (bs0.length + 2)) := cell_of_row Wo0 (b + 3) 0 _ _ _ hvl0.r12
  have HOP0 := Lib.hid (open_good Wo0 (some ⟨go0, 0, none⟩) (bs0.length + 2) R0 HG0.out bs0 HBS0.out hown0 (fun e => by cases e) (fun x hx => by cases hx; exact hro0.lt))
  have HOWN0 := Lib.hid hown0
  have hszo0 := HRO0.out.lt
  clear hvl0 hro0 hso0 hown0 
  go_upto_region 15 with (go_at_call 16; (with_reducible refine HOP0.out.mono ?_); rintro e Wq0 ⟨gv0, rfl, hgv0, hvq, hb⟩; (have HQ0 := Lib.hid hvq); (have HBQ0 := Lib.hid hb); clear hvq hb)
  have haq0 := HVL0.out.below HBQ0.out
  have hownq0 := HOWN0.out.keep HBQ0.out
  clear k120
  have k120 : Wq0.cell? ⟨b + 3, 0, none⟩ = some (.slice (some ⟨go0, 0, none⟩) bs0.length (bs0.length + 2)) := cell_of_row Wq0 (b + 3) 0 _ _ _ haq0.r12
  have HAQ0 := Lib.hid haq0
  have hszq0 := HBQ0.out.size
  have HVW0 := Lib.hid (view_good Wq0 (some ⟨go0, 0, none⟩) (bs0.length + 2) R0 HG0.out bs0 HBS0.out hownq0 (fun e => by cases e) (fun x hx => by cases hx; show go0 < _; omega))
  clear haq0 hownq0
  go_upto_region 18 with (go_at_call 17; (with_reducible refine HVW0.out.mono ?_); rintro e Ws0 ⟨gs0, rfl, hgs0, hvs, hb⟩; (have HSS0 := Lib.hid hvs); (have HBS20 := Lib.hid hb); clear hvs hb)
  have has0 := HAQ0.out.below HBS20.out
  have hvr0 : VD b Ws0 bs0 go0 gv0 gs0 aw0 cw0 := ⟨by obtain ⟨a, cap, vp, h⟩ := HQ0.out; exact ⟨a, cap, vp, h.below HBS20.out⟩, HSS0.out, (HRO0.out.below HBQ0.out HRO0.out.lt).below HBS20.out (HRO0.out.below HBQ0.out HRO0.out.lt).lt, (HSO0.out.keep HBQ0.out).keep HBS20.out, hszd0⟩
  
  clear k120 HAQ0 HOWN0 HOP0 HVW0 HQ0 HSS0 HRO0 HSO0 HBQ0 HBS20 HVL0 
  have k100 := cell_of_row Ws0 (b + 1) 0 _ _ _ has0.r10
  have f100 := fz_row (i := 0) has0.r10
  have HAS0 := Lib.hid has0
  have HVR0 := Lib.hid hvr0
  
  clear has0 hvr0 
  go_upto_region 19 with fail
  have hat0 : AR w2 (Ws0.setCell ⟨b + 1, 0, none⟩ (.pointer (some ⟨gv0, 0, none⟩))) b (#[.slice ra0 R0.length rc0, .slice ra1 R1.length rc1]) (#[.pointer (some ⟨gv0, 0, none⟩), .pointer none]) (#[.pointer none, .pointer none]) (#[.slice (some ⟨go0, 0, none⟩) bs0.length (bs0.length + 2), .slice none 0 0]) (#[.slice aw0 bs0.length cw0, .slice none 0 0]) := HAS0.out.s10 0 (fun k e => by cases e)
  have hvt0 := HVR0.out.set1 HAS0.out 0 (.pointer (some ⟨gv0, 0, none⟩))
  clear k100 f100 HAS0 HVR0 
  generalize Ws0.setCell ⟨b + 1, 0, none⟩ (.pointer (some ⟨gv0, 0, none⟩)) = Wt0 at hat0 hvt0  ⊢
  have k110 := cell_of_row Wt0 (b + 2) 0 _ _ _ hat0.r11
  have f110 := fz_row (i := 0) hat0.r11
  have HAT0 := Lib.hid hat0
  have HVT0 := Lib.hid hvt0
  
  clear hat0 hvt0 
  go_wp2_with fail
  have hae0 : AR w2 (Wt0.setCell ⟨b + 2, 0, none⟩ (.pointer (some ⟨gs0, 0, none⟩))) b (#[.slice ra0 R0.length rc0, .slice ra1 R1.length rc1]) (#[.pointer (some ⟨gv0, 0, none⟩), .pointer none]) (#[.pointer (some ⟨gs0, 0, none⟩), .pointer none]) (#[.slice (some ⟨go0, 0, none⟩) bs0.length (bs0.length + 2), .slice none 0 0]) (#[.slice aw0 bs0.length cw0, .slice none 0 0]) := HAT0.out.s11 0 (fun k e => by cases e)
  have hve0 := HVT0.out.set2 HAT0.out 0 (.pointer (some ⟨gs0, 0, none⟩))
  clear k110 f110 HAT0 HVT0 
  generalize Wt0.setCell ⟨b + 2, 0, none⟩ (.pointer (some ⟨gs0, 0, none⟩)) = V1 at hae0 hve0  ⊢
  have HA1 := Lib.hid hae0
  have HV0 := Lib.hid hve0
  
  have hsz1 : b + 5 ≤ V1.heap.size := by have := HV0.out.ro.lt; have := HV0.out.o1; omega
  clear hae0 hve0 
  rw [rounds_succ]
  have k91 : V1.cell? ⟨b, 1, none⟩ = some (.slice ra1 R1.length rc1) := cell_of_row V1 b 1 _ _ _ HA1.out.r9
  by_cases hle1 : R1.length ≤ 1048576
  rotate_left
  · have e91 : decide ((1048576 : Int) < (R1.length : Int)) = true := decide_eq_true (by omega)
    have HBE := Lib.hid (HB2.out.trans (HA1.out.bl.mono HB2.out.size))
    go_wp2_with fail
    go_ret
    exact ⟨rfl, HBE.out⟩
  have e91 : decide ((1048576 : Int) < (R1.length : Int)) = false := decide_eq_false (by omega)
  have hG1 : Right R1 := by rw [HRR1.out] at hle1 ⊢; exact ris_right hle1
  have HG1 := Lib.hid hG1
  obtain ⟨bs1, hbs1⟩ := bytes_of (treeB_rg hG1).1
  have hbl1 : bs1.length ≤ 67108864 := by have := (treeB_rg hG1).2; rw [← hbs1, nums_len] at this; exact this
  have HBS1 := Lib.hid hbs1
  clear hG1 hbs1
  have HRB1 := Lib.hid (rbuild_good V1 ra1 rc1 R1 HG1.out (HRS1.out.keep HA1.out.bl) bs1 HBS1.out)
  go_upto_region 12 with (go_at_call 10; (with_reducible refine HRB1.out.mono ?_); rintro e Ww1 ⟨aw1, cw1, rfl, hsw, hown, hb⟩; (have HSW1 := Lib.hid hsw); (have HOW1 := Lib.hid hown); (have HBB1 := Lib.hid hb); clear hsw hown hb)
  have haw1 : AR w2 Ww1 b (#[.slice ra0 R0.length rc0, .slice ra1 R1.length rc1]) (#[.pointer (some ⟨gv0, 0, none⟩), .pointer none]) (#[.pointer (some ⟨gs0, 0, none⟩), .pointer none]) (#[.slice (some ⟨go0, 0, none⟩) bs0.length (bs0.length + 2), .slice none 0 0]) (#[.slice aw0 bs0.length cw0, .slice none 0 0]) := HA1.out.below HBB1.out
  have k131 := cell_of_row Ww1 (b + 4) 1 _ _ _ haw1.r13
  have f131 := fz_row (i := 1) haw1.r13
  have HAW1 := Lib.hid haw1
  have hzw1 := HBB1.out.size
  have HVW := Lib.hid (HV0.out.below HBB1.out)
  clear haw1 k91
  go_upto_region 13 with fail
  have hd1 : AR w2 (Ww1.setCell ⟨b + 4, 1, none⟩ (.slice aw1 bs1.length cw1)) b (#[.slice ra0 R0.length rc0, .slice ra1 R1.length rc1]) (#[.pointer (some ⟨gv0, 0, none⟩), .pointer none]) (#[.pointer (some ⟨gs0, 0, none⟩), .pointer none]) (#[.slice (some ⟨go0, 0, none⟩) bs0.length (bs0.length + 2), .slice none 0 0]) (#[.slice aw0 bs0.length cw0, .slice aw1 bs1.length cw1]) := HAW1.out.s13 1 (fun k e => by cases e)
  have hsd1 := sl_keptT HSW1.out (kept_setA (w := Ww1) (b + 4) 1 (.slice aw1 bs1.length cw1)) (fun j e => by rw [e]; exact row_noU8 HAW1.out.r13 HAW1.out.n13)
  have hszd1 : b + 5 ≤ (Ww1.setCell ⟨b + 4, 1, none⟩ (.slice aw1 bs1.length cw1)).heap.size := by simp; omega
  have hvd := HVW.out.set4 HAW1.out 1 (.slice aw1 bs1.length cw1)
  generalize Ww1.setCell ⟨b + 4, 1, none⟩ (.slice aw1 bs1.length cw1) = Wd1 at hd1 hsd1 hszd1 hvd ⊢
  have HD1 := Lib.hid hd1
  have HSD1 := Lib.hid hsd1
  have HVD := Lib.hid hvd
  have HLT1 := Lib.hid (lent18_calls Wd1 aw1 bs1.length cw1 (nums bs1) hsd1 (by omega))
  clear k131 f131 HAW1 HSW1 HOW1 HBB1 HRB1 hd1 hsd1 HVW hvd
  go_upto_region 14 with (go_at_call 15; (with_reducible refine HLT1.out.mono ?_); rintro e Wl1 ⟨rfl, hf⟩; (have HF1 := Lib.hid hf); (have HL1' := Lib.hid (HD1.out.below hf.below)); (have k121 := cell_of_row Wl1 (b + 3) 1 _ _ _ HL1'.out.r12); (have f121 := fz_row (i := 1) HL1'.out.r12); (have HSL1 := Lib.hid (HSD1.out.keep hf.below)); clear hf)
  have hvl1 : AR w2 (Wl1.setCell ⟨b + 3, 1, none⟩ (.slice (some ⟨Wd1.heap.size, 0, none⟩) bs1.length (bs1.length + 2))) b (#[.slice ra0 R0.length rc0, .slice ra1 R1.length rc1]) (#[.pointer (some ⟨gv0, 0, none⟩), .pointer none]) (#[.pointer (some ⟨gs0, 0, none⟩), .pointer none]) (#[.slice (some ⟨go0, 0, none⟩) bs0.length (bs0.length + 2), .slice (some ⟨Wd1.heap.size, 0, none⟩) bs1.length (bs1.length + 2)]) (#[.slice aw0 bs0.length cw0, .slice aw1 bs1.length cw1]) := HL1'.out.s12 1 (fun k e => by cases e)
  have hno1 : ∀ j, j = b + 3 → ∀ (o : Nat) (k : Int), Wl1.cell? ⟨j, o, none⟩ ≠ some (.int .u8 k) := fun j e => by rw [e]; exact row_noU8 HL1'.out.r12 HL1'.out.n12
  have hro1 := row_keptS HF1.out.row (kept_setA (w := Wl1) (b + 3) 1 (.slice (some ⟨Wd1.heap.size, 0, none⟩) bs1.length (bs1.length + 2))) (by omega)
  have hso1 := sl_keptT HSL1.out (kept_setA (w := Wl1) (b + 3) 1 (.slice (some ⟨Wd1.heap.size, 0, none⟩) bs1.length (bs1.length + 2))) hno1
  have hvo := (HVD.out.below HF1.out.below).set3 HL1'.out 1 (.slice (some ⟨Wd1.heap.size, 0, none⟩) bs1.length (bs1.length + 2))
  clear HF1 HL1' k121 f121 HLT1 HD1 HSD1 HSL1 hno1 HVD
  generalize Wl1.setCell ⟨b + 3, 1, none⟩ (.slice (some ⟨Wd1.heap.size, 0, none⟩) bs1.length (bs1.length + 2)) = Wo1 at hvl1 hro1 hso1 hvo ⊢
  generalize Wd1.heap.size = go1 at hvl1 hro1 hszd1 hvo ⊢
  have HVL1 := Lib.hid hvl1
  have HRO1 := Lib.hid hro1
  have HSO1 := Lib.hid hso1
  have HVO := Lib.hid hvo
  have hown1 := own_slA hro1 (nums_len bs1) (by omega)
  have k121 : Wo1.cell? ⟨b + 3, 1, none⟩ = some (.slice (some ⟨go1, 0, none⟩) bs1.length (bs1.length + 2)) := cell_of_row Wo1 (b + 3) 1 _ _ _ hvl1.r12
  have HOP1 := Lib.hid (open_good Wo1 (some ⟨go1, 0, none⟩) (bs1.length + 2) R1 HG1.out bs1 HBS1.out hown1 (fun e => by cases e) (fun x hx => by cases hx; exact hro1.lt))
  have HOWN1 := Lib.hid hown1
  have hszo1 := HRO1.out.lt
  clear hvl1 hro1 hso1 hown1 hvo
  go_upto_region 15 with (go_at_call 16; (with_reducible refine HOP1.out.mono ?_); rintro e Wq1 ⟨gv1, rfl, hgv1, hvq, hb⟩; (have HQ1 := Lib.hid hvq); (have HBQ1 := Lib.hid hb); clear hvq hb)
  have haq1 := HVL1.out.below HBQ1.out
  have hownq1 := HOWN1.out.keep HBQ1.out
  clear k121
  have k121 : Wq1.cell? ⟨b + 3, 1, none⟩ = some (.slice (some ⟨go1, 0, none⟩) bs1.length (bs1.length + 2)) := cell_of_row Wq1 (b + 3) 1 _ _ _ haq1.r12
  have HAQ1 := Lib.hid haq1
  have hszq1 := HBQ1.out.size
  have HVW1 := Lib.hid (view_good Wq1 (some ⟨go1, 0, none⟩) (bs1.length + 2) R1 HG1.out bs1 HBS1.out hownq1 (fun e => by cases e) (fun x hx => by cases hx; show go1 < _; omega))
  clear haq1 hownq1
  go_upto_region 18 with (go_at_call 17; (with_reducible refine HVW1.out.mono ?_); rintro e Ws1 ⟨gs1, rfl, hgs1, hvs, hb⟩; (have HSS1 := Lib.hid hvs); (have HBS21 := Lib.hid hb); clear hvs hb)
  have has1 := HAQ1.out.below HBS21.out
  have hvr1 : VD b Ws1 bs1 go1 gv1 gs1 aw1 cw1 := ⟨by obtain ⟨a, cap, vp, h⟩ := HQ1.out; exact ⟨a, cap, vp, h.below HBS21.out⟩, HSS1.out, (HRO1.out.below HBQ1.out HRO1.out.lt).below HBS21.out (HRO1.out.below HBQ1.out HRO1.out.lt).lt, (HSO1.out.keep HBQ1.out).keep HBS21.out, hszd1⟩
  have hvr0 := (HVO.out.below HBQ1.out).below HBS21.out
  clear k121 HAQ1 HOWN1 HOP1 HVW1 HQ1 HSS1 HRO1 HSO1 HBQ1 HBS21 HVL1 HVO
  have k101 := cell_of_row Ws1 (b + 1) 1 _ _ _ has1.r10
  have f101 := fz_row (i := 1) has1.r10
  have HAS1 := Lib.hid has1
  have HVR1 := Lib.hid hvr1
  have HVRA := Lib.hid hvr0
  clear has1 hvr1 hvr0
  go_upto_region 19 with fail
  have hat1 : AR w2 (Ws1.setCell ⟨b + 1, 1, none⟩ (.pointer (some ⟨gv1, 0, none⟩))) b (#[.slice ra0 R0.length rc0, .slice ra1 R1.length rc1]) (#[.pointer (some ⟨gv0, 0, none⟩), .pointer (some ⟨gv1, 0, none⟩)]) (#[.pointer (some ⟨gs0, 0, none⟩), .pointer none]) (#[.slice (some ⟨go0, 0, none⟩) bs0.length (bs0.length + 2), .slice (some ⟨go1, 0, none⟩) bs1.length (bs1.length + 2)]) (#[.slice aw0 bs0.length cw0, .slice aw1 bs1.length cw1]) := HAS1.out.s10 1 (fun k e => by cases e)
  have hvt1 := HVR1.out.set1 HAS1.out 1 (.pointer (some ⟨gv1, 0, none⟩))
  have hvt0 := HVRA.out.set1 HAS1.out 1 (.pointer (some ⟨gv1, 0, none⟩))
  clear k101 f101 HAS1 HVR1 HVRA
  generalize Ws1.setCell ⟨b + 1, 1, none⟩ (.pointer (some ⟨gv1, 0, none⟩)) = Wt1 at hat1 hvt1 hvt0 ⊢
  have k111 := cell_of_row Wt1 (b + 2) 1 _ _ _ hat1.r11
  have f111 := fz_row (i := 1) hat1.r11
  have HAT1 := Lib.hid hat1
  have HVT1 := Lib.hid hvt1
  have HVTA := Lib.hid hvt0
  clear hat1 hvt1 hvt0
  go_wp2_with fail
  have hae1 : AR w2 (Wt1.setCell ⟨b + 2, 1, none⟩ (.pointer (some ⟨gs1, 0, none⟩))) b (#[.slice ra0 R0.length rc0, .slice ra1 R1.length rc1]) (#[.pointer (some ⟨gv0, 0, none⟩), .pointer (some ⟨gv1, 0, none⟩)]) (#[.pointer (some ⟨gs0, 0, none⟩), .pointer (some ⟨gs1, 0, none⟩)]) (#[.slice (some ⟨go0, 0, none⟩) bs0.length (bs0.length + 2), .slice (some ⟨go1, 0, none⟩) bs1.length (bs1.length + 2)]) (#[.slice aw0 bs0.length cw0, .slice aw1 bs1.length cw1]) := HAT1.out.s11 1 (fun k e => by cases e)
  have hve1 := HVT1.out.set2 HAT1.out 1 (.pointer (some ⟨gs1, 0, none⟩))
  have hve0 := HVTA.out.set2 HAT1.out 1 (.pointer (some ⟨gs1, 0, none⟩))
  clear k111 f111 HAT1 HVT1 HVTA
  generalize Wt1.setCell ⟨b + 2, 1, none⟩ (.pointer (some ⟨gs1, 0, none⟩)) = V2 at hae1 hve1 hve0 ⊢
  have HA2 := Lib.hid hae1
  have HV1 := Lib.hid hve1
  have HVZ := Lib.hid hve0
  have hsz2 : b + 5 ≤ V2.heap.size := by have := HV1.out.ro.lt; have := HV1.out.o1; omega
  clear hae1 hve1 hve0
  rw [rounds_succ]
  go_wp2_with fail
  have HVF0 := HVZ
  have HVF1 := HV1
  have HBL := Lib.hid (HB2.out.trans (HA2.out.bl.mono HB2.out.size))
  clear HVZ HV1 HA0 HA1
  go_loopw [21] (fun iv wr => ∃ i : Nat, iv = .int .i64 (i : Nat) ∧ i ≤ n2 ∧ Below V2.heap.size V2 wr) (fun iv _ => n2 - (intOf iv).toNat)
  case atStart => exact ⟨0, rfl, Nat.zero_le _, Below.refl _ _⟩
  case round =>
    obtain ⟨i, rfl, hi, hbr⟩ := hrel
    have HBR := Lib.hid hbr
    clear hbr
    have hl2b := H2.out.le
    have hm2b := H2.out.max
    by_cases hin : i < n2
    · by_cases hi3 : i < n3
      · obtain ⟨b3, o3, rfl, hc3⟩ := (H3.out.keep (HBL.out.trans (HBR.out.mono HBL.out.size))).cell i hi3
        have hl3 := H3.out.le
        obtain ⟨B, hB⟩ : ∃ B, B = l3.getD i false := ⟨_, rfl⟩
        rw [← hB] at hc3
        clear hB
        cases B with
        | true =>
          have ha : AR w2 wr b (#[.slice ra0 R0.length rc0, .slice ra1 R1.length rc1]) (#[.pointer (some ⟨gv0, 0, none⟩), .pointer (some ⟨gv1, 0, none⟩)]) (#[.pointer (some ⟨gs0, 0, none⟩), .pointer (some ⟨gs1, 0, none⟩)]) (#[.slice (some ⟨go0, 0, none⟩) bs0.length (bs0.length + 2), .slice (some ⟨go1, 0, none⟩) bs1.length (bs1.length + 2)]) (#[.slice aw0 bs0.length cw0, .slice aw1 bs1.length cw1]) := HA2.out.below HBR.out
          have hv : VD b wr bs1 go1 gv1 gs1 aw1 cw1 := HVF1.out.below HBR.out
          have hk := (H2.out.below (HBL.out.trans (HBR.out.mono HBL.out.size))).at_ i hin
          have hl2 := (H2.out).le
          have hm2 := (H2.out).max
          obtain ⟨bq, oq, rfl, hok⟩ := hk
          obtain ⟨q, hq⟩ : ∃ q, q = asks i := ⟨_, rfl⟩
          rw [← hq] at hok
          clear hq
          obtain ⟨kd, qn, qs, qm⟩ := q
          have hqn : -9223372036854775808 ≤ qn ∧ qn ≤ 9223372036854775807 := hok.nr
          have hqm : -9223372036854775808 ≤ qm ∧ qm ≤ 9223372036854775807 := hok.mr
          have hsr := HRS1.out.keep ha.bl
          have k9 : wr.cell? ⟨b, 1, none⟩ = some (.slice ra1 R1.length rc1) := cell_of_row wr b 1 _ _ _ ha.r9
          have k10 : wr.cell? ⟨b + 1, 1, none⟩ = some (.pointer (some ⟨gv1, 0, none⟩)) := cell_of_row wr (b + 1) 1 _ _ _ ha.r10
          have j0 : wr.cell? ⟨bq, oq + i * 7, none⟩ = some (.int .i64 kd) := hok.c0
          have j1 : wr.cell? ⟨bq, oq + i * 7 + 1, none⟩ = some (.int .i64 qn) := hok.c1
          have j2 : wr.cell? ⟨bq, oq + i * 7 + 2, none⟩ = some (.int .i64 qs.a) := hok.cq 0 (by omega)
          have j3 : wr.cell? ⟨bq, oq + i * 7 + 3, none⟩ = some (.int .i64 qs.b) := hok.cq 1 (by omega)
          have j4 : wr.cell? ⟨bq, oq + i * 7 + 4, none⟩ = some (.int .i64 qs.c) := hok.cq 2 (by omega)
          have j5 : wr.cell? ⟨bq, oq + i * 7 + 5, none⟩ = some (.int .i64 qs.d) := hok.cq 3 (by omega)
          have j6 : wr.cell? ⟨bq, oq + i * 7 + 6, none⟩ = some (.int .i64 qm) := hok.c6
          have HAR := Lib.hid ha
          have HVR := Lib.hid hv
          have HOK := Lib.hid hok
          have HSR := Lib.hid hsr
          clear ha hv hok hsr
          go_upto_region 26 with fail
          refine wp_region_quiet_tail (fun w' => ∃ n, w' = wr.drewN n) 10 (by kernel_rfl) (by kernel_rfl) ⟨1, rfl⟩ ?_
          simp only [List.take_succ_cons, List.take_zero, List.drop_succ_cons, List.drop_zero]
          repeat (go_big_quiet_step (fail))
          refine wpQuiet_nil ?_
          rintro _ ⟨d1, rfl⟩
          clear k9 k10 j0 j1 j2 j3 j4 j5 j6
          have HAS1 := Lib.hid (show Calls Try.prog 18 #[.pointer (some ⟨gv1, 0, none⟩), .slice ra1 R1.length rc1, .agg #[.int .i64 kd, .int .i64 qn, .int .i64 qs.a, .int .i64 qs.b, .int .i64 qs.c, .int .i64 qs.d, .int .i64 qm]] (wr.drewN d1) (fun e w' => e = .returned (.bool true) ∧ Below (wr.drewN d1).heap.size (wr.drewN d1) w') by
            obtain ⟨a', cap', vp', h⟩ := HVR.out.vo
            exact asked_all (wr.drewN d1) gv1 bs1 a' cap' vp' (h.below (below_drewN (Below.refl _ _) d1)) R1 (blt_of HG1.out HBS1.out) ra1 rc1 (HSR.out.keep (below_drewN (Below.refl _ _) d1)) kd qn hqn qs qm hqm)
          go_upto_region 27 with (go_at_call 18; (with_reducible refine HAS1.out.mono ?_); rintro e w5 ⟨rfl, hb5⟩; (have HB5 := Lib.hid ((below_drewN (Below.refl wr.heap.size wr) d1).trans (hb5.mono (below_drewN (Below.refl wr.heap.size wr) d1).size))); clear hb5)
          clear HAS1
          have ha4 := HAR.out.below HB5.out
          have hok4 := HOK.out.below HB5.out
          have k9 : w5.cell? ⟨b, 1, none⟩ = some (.slice ra1 R1.length rc1) := cell_of_row w5 b 1 _ _ _ ha4.r9
          have k10 : w5.cell? ⟨b + 2, 1, none⟩ = some (.pointer (some ⟨gs1, 0, none⟩)) := cell_of_row w5 (b + 2) 1 _ _ _ ha4.r11
          have j0 : w5.cell? ⟨bq, oq + i * 7, none⟩ = some (.int .i64 kd) := hok4.c0
          have j1 : w5.cell? ⟨bq, oq + i * 7 + 1, none⟩ = some (.int .i64 qn) := hok4.c1
          have j2 : w5.cell? ⟨bq, oq + i * 7 + 2, none⟩ = some (.int .i64 qs.a) := hok4.cq 0 (by omega)
          have j3 : w5.cell? ⟨bq, oq + i * 7 + 3, none⟩ = some (.int .i64 qs.b) := hok4.cq 1 (by omega)
          have j4 : w5.cell? ⟨bq, oq + i * 7 + 4, none⟩ = some (.int .i64 qs.c) := hok4.cq 2 (by omega)
          have j5 : w5.cell? ⟨bq, oq + i * 7 + 5, none⟩ = some (.int .i64 qs.d) := hok4.cq 3 (by omega)
          have j6 : w5.cell? ⟨bq, oq + i * 7 + 6, none⟩ = some (.int .i64 qm) := hok4.c6
          clear ha4 hok4
          refine wp_region_quiet_tail (fun w' => ∃ n, w' = w5.drewN n) 10 (by kernel_rfl) (by kernel_rfl) ⟨1, rfl⟩ ?_
          simp only [List.take_succ_cons, List.take_zero, List.drop_succ_cons, List.drop_zero]
          repeat (go_big_quiet_step (fail))
          refine wpQuiet_nil ?_
          rintro _ ⟨d2, rfl⟩
          clear k9 k10 j0 j1 j2 j3 j4 j5 j6
          have HAS2 := Lib.hid (show Calls Try.prog 18 #[.pointer (some ⟨gs1, 0, none⟩), .slice ra1 R1.length rc1, .agg #[.int .i64 kd, .int .i64 qn, .int .i64 qs.a, .int .i64 qs.b, .int .i64 qs.c, .int .i64 qs.d, .int .i64 qm]] (w5.drewN d2) (fun e w' => e = .returned (.bool true) ∧ Below (w5.drewN d2).heap.size (w5.drewN d2) w') by
            obtain ⟨a', cap', vp', h⟩ := (HVR.out.below HB5.out).vs
            exact asked_all (w5.drewN d2) gs1 bs1 a' cap' vp' (h.below (below_drewN (Below.refl _ _) d2)) R1 (blt_of HG1.out HBS1.out) ra1 rc1 ((HSR.out.keep HB5.out).keep (below_drewN (Below.refl _ _) d2)) kd qn hqn qs qm hqm)
          go_wp2_with (go_at_call 18; (with_reducible refine HAS2.out.mono ?_); rintro e w6 ⟨rfl, hb6⟩; (have HB6 := Lib.hid ((below_drewN HB5.out d2).trans (hb6.mono (below_drewN HB5.out d2).size))); clear hb6)
          go_roundw
          case rel => exact ⟨i + 1, by go_num, by omega, HBR.out.trans (HB6.out.mono HBR.out.size)⟩
          case measure => simp [intOf]; omega
        | false =>
          have ha : AR w2 wr b (#[.slice ra0 R0.length rc0, .slice ra1 R1.length rc1]) (#[.pointer (some ⟨gv0, 0, none⟩), .pointer (some ⟨gv1, 0, none⟩)]) (#[.pointer (some ⟨gs0, 0, none⟩), .pointer (some ⟨gs1, 0, none⟩)]) (#[.slice (some ⟨go0, 0, none⟩) bs0.length (bs0.length + 2), .slice (some ⟨go1, 0, none⟩) bs1.length (bs1.length + 2)]) (#[.slice aw0 bs0.length cw0, .slice aw1 bs1.length cw1]) := HA2.out.below HBR.out
          have hv : VD b wr bs0 go0 gv0 gs0 aw0 cw0 := HVF0.out.below HBR.out
          have hk := (H2.out.below (HBL.out.trans (HBR.out.mono HBL.out.size))).at_ i hin
          have hl2 := (H2.out).le
          have hm2 := (H2.out).max
          obtain ⟨bq, oq, rfl, hok⟩ := hk
          obtain ⟨q, hq⟩ : ∃ q, q = asks i := ⟨_, rfl⟩
          rw [← hq] at hok
          clear hq
          obtain ⟨kd, qn, qs, qm⟩ := q
          have hqn : -9223372036854775808 ≤ qn ∧ qn ≤ 9223372036854775807 := hok.nr
          have hqm : -9223372036854775808 ≤ qm ∧ qm ≤ 9223372036854775807 := hok.mr
          have hsr := HRS0'.out.keep ha.bl
          have k9 : wr.cell? ⟨b, 0, none⟩ = some (.slice ra0 R0.length rc0) := cell_of_row wr b 0 _ _ _ ha.r9
          have k10 : wr.cell? ⟨b + 1, 0, none⟩ = some (.pointer (some ⟨gv0, 0, none⟩)) := cell_of_row wr (b + 1) 0 _ _ _ ha.r10
          have j0 : wr.cell? ⟨bq, oq + i * 7, none⟩ = some (.int .i64 kd) := hok.c0
          have j1 : wr.cell? ⟨bq, oq + i * 7 + 1, none⟩ = some (.int .i64 qn) := hok.c1
          have j2 : wr.cell? ⟨bq, oq + i * 7 + 2, none⟩ = some (.int .i64 qs.a) := hok.cq 0 (by omega)
          have j3 : wr.cell? ⟨bq, oq + i * 7 + 3, none⟩ = some (.int .i64 qs.b) := hok.cq 1 (by omega)
          have j4 : wr.cell? ⟨bq, oq + i * 7 + 4, none⟩ = some (.int .i64 qs.c) := hok.cq 2 (by omega)
          have j5 : wr.cell? ⟨bq, oq + i * 7 + 5, none⟩ = some (.int .i64 qs.d) := hok.cq 3 (by omega)
          have j6 : wr.cell? ⟨bq, oq + i * 7 + 6, none⟩ = some (.int .i64 qm) := hok.c6
          have HAR := Lib.hid ha
          have HVR := Lib.hid hv
          have HOK := Lib.hid hok
          have HSR := Lib.hid hsr
          clear ha hv hok hsr
          go_upto_region 26 with fail
          refine wp_region_quiet_tail (fun w' => ∃ n, w' = wr.drewN n) 10 (by kernel_rfl) (by kernel_rfl) ⟨1, rfl⟩ ?_
          simp only [List.take_succ_cons, List.take_zero, List.drop_succ_cons, List.drop_zero]
          repeat (go_big_quiet_step (fail))
          refine wpQuiet_nil ?_
          rintro _ ⟨d1, rfl⟩
          clear k9 k10 j0 j1 j2 j3 j4 j5 j6
          have HAS1 := Lib.hid (show Calls Try.prog 18 #[.pointer (some ⟨gv0, 0, none⟩), .slice ra0 R0.length rc0, .agg #[.int .i64 kd, .int .i64 qn, .int .i64 qs.a, .int .i64 qs.b, .int .i64 qs.c, .int .i64 qs.d, .int .i64 qm]] (wr.drewN d1) (fun e w' => e = .returned (.bool true) ∧ Below (wr.drewN d1).heap.size (wr.drewN d1) w') by
            obtain ⟨a', cap', vp', h⟩ := HVR.out.vo
            exact asked_all (wr.drewN d1) gv0 bs0 a' cap' vp' (h.below (below_drewN (Below.refl _ _) d1)) R0 (blt_of HG0.out HBS0.out) ra0 rc0 (HSR.out.keep (below_drewN (Below.refl _ _) d1)) kd qn hqn qs qm hqm)
          go_upto_region 27 with (go_at_call 18; (with_reducible refine HAS1.out.mono ?_); rintro e w5 ⟨rfl, hb5⟩; (have HB5 := Lib.hid ((below_drewN (Below.refl wr.heap.size wr) d1).trans (hb5.mono (below_drewN (Below.refl wr.heap.size wr) d1).size))); clear hb5)
          clear HAS1
          have ha4 := HAR.out.below HB5.out
          have hok4 := HOK.out.below HB5.out
          have k9 : w5.cell? ⟨b, 0, none⟩ = some (.slice ra0 R0.length rc0) := cell_of_row w5 b 0 _ _ _ ha4.r9
          have k10 : w5.cell? ⟨b + 2, 0, none⟩ = some (.pointer (some ⟨gs0, 0, none⟩)) := cell_of_row w5 (b + 2) 0 _ _ _ ha4.r11
          have j0 : w5.cell? ⟨bq, oq + i * 7, none⟩ = some (.int .i64 kd) := hok4.c0
          have j1 : w5.cell? ⟨bq, oq + i * 7 + 1, none⟩ = some (.int .i64 qn) := hok4.c1
          have j2 : w5.cell? ⟨bq, oq + i * 7 + 2, none⟩ = some (.int .i64 qs.a) := hok4.cq 0 (by omega)
          have j3 : w5.cell? ⟨bq, oq + i * 7 + 3, none⟩ = some (.int .i64 qs.b) := hok4.cq 1 (by omega)
          have j4 : w5.cell? ⟨bq, oq + i * 7 + 4, none⟩ = some (.int .i64 qs.c) := hok4.cq 2 (by omega)
          have j5 : w5.cell? ⟨bq, oq + i * 7 + 5, none⟩ = some (.int .i64 qs.d) := hok4.cq 3 (by omega)
          have j6 : w5.cell? ⟨bq, oq + i * 7 + 6, none⟩ = some (.int .i64 qm) := hok4.c6
          clear ha4 hok4
          refine wp_region_quiet_tail (fun w' => ∃ n, w' = w5.drewN n) 10 (by kernel_rfl) (by kernel_rfl) ⟨1, rfl⟩ ?_
          simp only [List.take_succ_cons, List.take_zero, List.drop_succ_cons, List.drop_zero]
          repeat (go_big_quiet_step (fail))
          refine wpQuiet_nil ?_
          rintro _ ⟨d2, rfl⟩
          clear k9 k10 j0 j1 j2 j3 j4 j5 j6
          have HAS2 := Lib.hid (show Calls Try.prog 18 #[.pointer (some ⟨gs0, 0, none⟩), .slice ra0 R0.length rc0, .agg #[.int .i64 kd, .int .i64 qn, .int .i64 qs.a, .int .i64 qs.b, .int .i64 qs.c, .int .i64 qs.d, .int .i64 qm]] (w5.drewN d2) (fun e w' => e = .returned (.bool true) ∧ Below (w5.drewN d2).heap.size (w5.drewN d2) w') by
            obtain ⟨a', cap', vp', h⟩ := (HVR.out.below HB5.out).vs
            exact asked_all (w5.drewN d2) gs0 bs0 a' cap' vp' (h.below (below_drewN (Below.refl _ _) d2)) R0 (blt_of HG0.out HBS0.out) ra0 rc0 ((HSR.out.keep HB5.out).keep (below_drewN (Below.refl _ _) d2)) kd qn hqn qs qm hqm)
          go_wp2_with (go_at_call 18; (with_reducible refine HAS2.out.mono ?_); rintro e w6 ⟨rfl, hb6⟩; (have HB6 := Lib.hid ((below_drewN HB5.out d2).trans (hb6.mono (below_drewN HB5.out d2).size))); clear hb6)
          go_roundw
          case rel => exact ⟨i + 1, by go_num, by omega, HBR.out.trans (HB6.out.mono HBR.out.size)⟩
          case measure => simp [intOf]; omega
      · have ha : AR w2 wr b (#[.slice ra0 R0.length rc0, .slice ra1 R1.length rc1]) (#[.pointer (some ⟨gv0, 0, none⟩), .pointer (some ⟨gv1, 0, none⟩)]) (#[.pointer (some ⟨gs0, 0, none⟩), .pointer (some ⟨gs1, 0, none⟩)]) (#[.slice (some ⟨go0, 0, none⟩) bs0.length (bs0.length + 2), .slice (some ⟨go1, 0, none⟩) bs1.length (bs1.length + 2)]) (#[.slice aw0 bs0.length cw0, .slice aw1 bs1.length cw1]) := HA2.out.below HBR.out
        have hv : VD b wr bs0 go0 gv0 gs0 aw0 cw0 := HVF0.out.below HBR.out
        have hk := (H2.out.below (HBL.out.trans (HBR.out.mono HBL.out.size))).at_ i hin
        have hl2 := (H2.out).le
        have hm2 := (H2.out).max
        obtain ⟨bq, oq, rfl, hok⟩ := hk
        obtain ⟨q, hq⟩ : ∃ q, q = asks i := ⟨_, rfl⟩
        rw [← hq] at hok
        clear hq
        obtain ⟨kd, qn, qs, qm⟩ := q
        have hqn : -9223372036854775808 ≤ qn ∧ qn ≤ 9223372036854775807 := hok.nr
        have hqm : -9223372036854775808 ≤ qm ∧ qm ≤ 9223372036854775807 := hok.mr
        have hsr := HRS0'.out.keep ha.bl
        have k9 : wr.cell? ⟨b, 0, none⟩ = some (.slice ra0 R0.length rc0) := cell_of_row wr b 0 _ _ _ ha.r9
        have k10 : wr.cell? ⟨b + 1, 0, none⟩ = some (.pointer (some ⟨gv0, 0, none⟩)) := cell_of_row wr (b + 1) 0 _ _ _ ha.r10
        have j0 : wr.cell? ⟨bq, oq + i * 7, none⟩ = some (.int .i64 kd) := hok.c0
        have j1 : wr.cell? ⟨bq, oq + i * 7 + 1, none⟩ = some (.int .i64 qn) := hok.c1
        have j2 : wr.cell? ⟨bq, oq + i * 7 + 2, none⟩ = some (.int .i64 qs.a) := hok.cq 0 (by omega)
        have j3 : wr.cell? ⟨bq, oq + i * 7 + 3, none⟩ = some (.int .i64 qs.b) := hok.cq 1 (by omega)
        have j4 : wr.cell? ⟨bq, oq + i * 7 + 4, none⟩ = some (.int .i64 qs.c) := hok.cq 2 (by omega)
        have j5 : wr.cell? ⟨bq, oq + i * 7 + 5, none⟩ = some (.int .i64 qs.d) := hok.cq 3 (by omega)
        have j6 : wr.cell? ⟨bq, oq + i * 7 + 6, none⟩ = some (.int .i64 qm) := hok.c6
        have HAR := Lib.hid ha
        have HVR := Lib.hid hv
        have HOK := Lib.hid hok
        have HSR := Lib.hid hsr
        clear ha hv hok hsr
        go_upto_region 26 with fail
        refine wp_region_quiet_tail (fun w' => ∃ n, w' = wr.drewN n) 10 (by kernel_rfl) (by kernel_rfl) ⟨1, rfl⟩ ?_
        simp only [List.take_succ_cons, List.take_zero, List.drop_succ_cons, List.drop_zero]
        repeat (go_big_quiet_step (fail))
        refine wpQuiet_nil ?_
        rintro _ ⟨d1, rfl⟩
        clear k9 k10 j0 j1 j2 j3 j4 j5 j6
        have HAS1 := Lib.hid (show Calls Try.prog 18 #[.pointer (some ⟨gv0, 0, none⟩), .slice ra0 R0.length rc0, .agg #[.int .i64 kd, .int .i64 qn, .int .i64 qs.a, .int .i64 qs.b, .int .i64 qs.c, .int .i64 qs.d, .int .i64 qm]] (wr.drewN d1) (fun e w' => e = .returned (.bool true) ∧ Below (wr.drewN d1).heap.size (wr.drewN d1) w') by
          obtain ⟨a', cap', vp', h⟩ := HVR.out.vo
          exact asked_all (wr.drewN d1) gv0 bs0 a' cap' vp' (h.below (below_drewN (Below.refl _ _) d1)) R0 (blt_of HG0.out HBS0.out) ra0 rc0 (HSR.out.keep (below_drewN (Below.refl _ _) d1)) kd qn hqn qs qm hqm)
        go_upto_region 27 with (go_at_call 18; (with_reducible refine HAS1.out.mono ?_); rintro e w5 ⟨rfl, hb5⟩; (have HB5 := Lib.hid ((below_drewN (Below.refl wr.heap.size wr) d1).trans (hb5.mono (below_drewN (Below.refl wr.heap.size wr) d1).size))); clear hb5)
        clear HAS1
        have ha4 := HAR.out.below HB5.out
        have hok4 := HOK.out.below HB5.out
        have k9 : w5.cell? ⟨b, 0, none⟩ = some (.slice ra0 R0.length rc0) := cell_of_row w5 b 0 _ _ _ ha4.r9
        have k10 : w5.cell? ⟨b + 2, 0, none⟩ = some (.pointer (some ⟨gs0, 0, none⟩)) := cell_of_row w5 (b + 2) 0 _ _ _ ha4.r11
        have j0 : w5.cell? ⟨bq, oq + i * 7, none⟩ = some (.int .i64 kd) := hok4.c0
        have j1 : w5.cell? ⟨bq, oq + i * 7 + 1, none⟩ = some (.int .i64 qn) := hok4.c1
        have j2 : w5.cell? ⟨bq, oq + i * 7 + 2, none⟩ = some (.int .i64 qs.a) := hok4.cq 0 (by omega)
        have j3 : w5.cell? ⟨bq, oq + i * 7 + 3, none⟩ = some (.int .i64 qs.b) := hok4.cq 1 (by omega)
        have j4 : w5.cell? ⟨bq, oq + i * 7 + 4, none⟩ = some (.int .i64 qs.c) := hok4.cq 2 (by omega)
        have j5 : w5.cell? ⟨bq, oq + i * 7 + 5, none⟩ = some (.int .i64 qs.d) := hok4.cq 3 (by omega)
        have j6 : w5.cell? ⟨bq, oq + i * 7 + 6, none⟩ = some (.int .i64 qm) := hok4.c6
        clear ha4 hok4
        refine wp_region_quiet_tail (fun w' => ∃ n, w' = w5.drewN n) 10 (by kernel_rfl) (by kernel_rfl) ⟨1, rfl⟩ ?_
        simp only [List.take_succ_cons, List.take_zero, List.drop_succ_cons, List.drop_zero]
        repeat (go_big_quiet_step (fail))
        refine wpQuiet_nil ?_
        rintro _ ⟨d2, rfl⟩
        clear k9 k10 j0 j1 j2 j3 j4 j5 j6
        have HAS2 := Lib.hid (show Calls Try.prog 18 #[.pointer (some ⟨gs0, 0, none⟩), .slice ra0 R0.length rc0, .agg #[.int .i64 kd, .int .i64 qn, .int .i64 qs.a, .int .i64 qs.b, .int .i64 qs.c, .int .i64 qs.d, .int .i64 qm]] (w5.drewN d2) (fun e w' => e = .returned (.bool true) ∧ Below (w5.drewN d2).heap.size (w5.drewN d2) w') by
          obtain ⟨a', cap', vp', h⟩ := (HVR.out.below HB5.out).vs
          exact asked_all (w5.drewN d2) gs0 bs0 a' cap' vp' (h.below (below_drewN (Below.refl _ _) d2)) R0 (blt_of HG0.out HBS0.out) ra0 rc0 ((HSR.out.keep HB5.out).keep (below_drewN (Below.refl _ _) d2)) kd qn hqn qs qm hqm)
        go_wp2_with (go_at_call 18; (with_reducible refine HAS2.out.mono ?_); rintro e w6 ⟨rfl, hb6⟩; (have HB6 := Lib.hid ((below_drewN HB5.out d2).trans (hb6.mono (below_drewN HB5.out d2).size))); clear hb6)
        go_roundw
        case rel => exact ⟨i + 1, by go_num, by omega, HBR.out.trans (HB6.out.mono HBR.out.size)⟩
        case measure => simp [intOf]; omega
    · obtain rfl : i = n2 := by omega
      have ha : AR w2 wr b (#[.slice ra0 R0.length rc0, .slice ra1 R1.length rc1]) (#[.pointer (some ⟨gv0, 0, none⟩), .pointer (some ⟨gv1, 0, none⟩)]) (#[.pointer (some ⟨gs0, 0, none⟩), .pointer (some ⟨gs1, 0, none⟩)]) (#[.slice (some ⟨go0, 0, none⟩) bs0.length (bs0.length + 2), .slice (some ⟨go1, 0, none⟩) bs1.length (bs1.length + 2)]) (#[.slice aw0 bs0.length cw0, .slice aw1 bs1.length cw1]) := HA2.out.below HBR.out
      have hv0 := HVF0.out.below HBR.out
      have hv1 := HVF1.out.below HBR.out
      have k12a : wr.cell? ⟨b + 3, 0, none⟩ = some (.slice (some ⟨go0, 0, none⟩) bs0.length (bs0.length + 2)) := cell_of_row wr (b + 3) 0 _ _ _ ha.r12
      have k12b : wr.cell? ⟨b + 3, 1, none⟩ = some (.slice (some ⟨go1, 0, none⟩) bs1.length (bs1.length + 2)) := cell_of_row wr (b + 3) 1 _ _ _ ha.r12
      have k13a : wr.cell? ⟨b + 4, 0, none⟩ = some (.slice aw0 bs0.length cw0) := cell_of_row wr (b + 4) 0 _ _ _ ha.r13
      have k13b : wr.cell? ⟨b + 4, 1, none⟩ = some (.slice aw1 bs1.length cw1) := cell_of_row wr (b + 4) 1 _ _ _ ha.r13
      have HBA := Lib.hid (back18_calls wr go0 aw0 bs0.length cw0 (nums bs0) hv0.ro hv0.sw (by omega))
      have HBB := Lib.hid (fun m => back18_calls (wr.drewN m) go1 aw1 bs1.length cw1 (nums bs1) hv1.ro (hv1.sw.keep (below_drewN (Below.refl _ _) m)) (by omega))
      have HBZ := Lib.hid (HB2.out.trans (ha.bl.mono HB2.out.size))
      clear ha hv0 hv1
      go_wp2_with (first
        | (go_at_call 19; (with_reducible refine HBA.out.mono ?_); rintro e wz ⟨rfl, mz, rfl⟩; (have j12b : (wr.drewN mz).cell? ⟨b + 3, 1, none⟩ = some (.slice (some ⟨go1, 0, none⟩) bs1.length (bs1.length + 2)) := k12b); (have j13b : (wr.drewN mz).cell? ⟨b + 4, 1, none⟩ = some (.slice aw1 bs1.length cw1) := k13b))
        | (go_at_call 19; (with_reducible refine (HBB.out _).mono ?_); rintro e wy ⟨rfl, my, rfl⟩))
      go_ret
      exact ⟨rfl, below_drewN HBZ.out _⟩

theorem tanswers_in (w : World) (a0 : Option Addr) (n0 c0 : Nat) (L0 : List Qd) (h0 : SlQ w a0 n0 c0 L0) (hn0 : a0 = none → c0 = 0) (ho0 : ∀ q ∈ L0, QdOk q) (hc0 : c0 ≤ 4398046510976) (a1 : Option Addr) (n1 c1 : Nat) (L1 : List Qd) (h1 : SlQ w a1 n1 c1 L1) (hn1 : a1 = none → c1 = 0) (ho1 : ∀ q ∈ L1, QdOk q) (hc1 : c1 ≤ 4398046510976)
    (a2 : Option Addr) (n2 c2 : Nat) (asks : Nat → AskV) (h2 : AsksAt w a2 n2 c2 asks) (a3 : Option Addr) (n3 c3 : Nat) (l3 : List Bool) (h3 : SlB w a3 n3 c3 l3) (hk3 : c3 ≤ 140737488351232) :
    Calls Try.prog 4 #[.slice a0 n0 c0, .slice a1 n1 c1, .slice a2 n2 c2, .slice a3 n3 c3] w fun e w' => e = .returned (.bool true) ∧ Below w.heap.size w w' :=
  tanswers_go w a0 n0 c0 L0 h0 (by have := h0.le; omega) a1 n1 c1 L1 h1 (by have := h1.le; omega) a2 n2 c2 asks h2 a3 n3 c3 l3 h3
end Go.Proofs.Ytgajpekolamjbaa
