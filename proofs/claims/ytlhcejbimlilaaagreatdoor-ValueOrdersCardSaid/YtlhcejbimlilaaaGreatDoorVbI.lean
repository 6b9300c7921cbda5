/- VbH VbI, laid as one. -/
import Derived.Test.YtlhcejbimlilaaaGreatDoorVbG
import Derived.Laws.StructEq
set_option linter.unusedVariables false
set_option linter.unusedSimpArgs false
/- The program's Compare, case by case (written by gen_vbh.py). -/
namespace Go.Proofs.YtlhcejbimlilaaaGreatDoor
open Go.RowKit Go.Tk
theorem nuN_inf (s : List UInt8) : -1 ≤ (nuN s).inf ∧ (nuN s).inf ≤ 1 := by
  unfold nuN
  cases h : dblP s with
  | none => simp [nmZ]
  | some n => exact (dblP_bd h).2.1
set_option maxHeartbeats 2000000 in
theorem cmp_nn (ka kb : Int) (xa ta la xb tb lb : ByteArray) (w : World) 
    (ha : ∀ w, Calls Tryz.prog 28 #[.agg #[.int .i64 ka, .string xa, .string ta, .string la]] w (VdN w))
    (hb : ∀ w, Calls Tryz.prog 28 #[.agg #[.int .i64 kb, .string xb, .string tb, .string lb]] w (VdN w)) :
    Calls Tryz.prog 17 #[.agg #[.int .i64 ka, .string xa, .string ta, .string la], .agg #[.int .i64 kb, .string xb, .string tb, .string lb]] w fun e w' => e = .returned (.tuple #[.int .i64 (0), .bool false]) ∧ Below w.heap.size w w' := by
  have HA := Lib.hid ha
  have HB := Lib.hid hb
  clear ha hb
  go_enter Tryz.func17, Tryz.ntmps17
  go_upto_region 2 with (go_at_call 28; (with_reducible refine (HA.out _).mono ?_); rintro e w1 ⟨rfl, hb1⟩)
  obtain ⟨ra, rb, hab⟩ := box2 w (.cells #[.int .i64 ka, .string xa, .string ta, .string la] 33) (.cells #[.int .i64 kb, .string xb, .string tb, .string lb] 33)
  have sab : ((w.alloc (.cells #[.int .i64 ka, .string xa, .string ta, .string la] 33)).alloc (.cells #[.int .i64 kb, .string xb, .string tb, .string lb] 33)).heap.size = w.heap.size + 2 := by simp
  generalize World.alloc (World.alloc w _) _ = w0 at ra rb hab hb1 sab ⊢
  have ra1 := (hb1.block _ (by omega)).trans ra
  have rb1 := (hb1.block _ (by omega)).trans rb
  have hbz := hab.trans (hb1.mono hab.size)
  obtain ⟨rc, hbc⟩ := box1 w1 (.cells #[.int .i64 0, .nilFunc, .nilFunc] 44)
  have ra2 := (hbc.block _ (lt_of_block ra1)).trans ra1
  have rb2 := (hbc.block _ (lt_of_block rb1)).trans rb1
  have hb2 := hbz.trans (hbc.mono hbz.size)
  generalize World.alloc w1 _ = w2 at rc hbc ra2 rb2 hb2 ⊢
  obtain ⟨g1, hg1⟩ : ∃ g, g = w1.heap.size := ⟨_, rfl⟩
  rw [← hg1] at rc ⊢
  have y0 := row_cell rb2 0
  have y1 := row_cell rb2 1
  have y2 := row_cell rb2 2
  have y3 := row_cell rb2 3
  simp at y0 y1 y2 y3
  clear ra rb hab hb1 sab ra1 rb1 hbz hbc hg1
  go_upto_region 3 with (go_at_call 28; (with_reducible refine (HB.out _).mono ?_); rintro e w3 ⟨rfl, hb3⟩)
  have ra3 := (hb3.block _ (lt_of_block ra2)).trans ra2
  have rb3 := (hb3.block _ (lt_of_block rb2)).trans rb2
  have rc3 := (hb3.block _ (lt_of_block rc)).trans rc
  obtain ⟨rd, hbd⟩ := box1 w3 (.cells #[.int .i64 0, .nilFunc, .nilFunc] 44)
  have ra4 := (hbd.block _ (lt_of_block ra3)).trans ra3
  have rb4 := (hbd.block _ (lt_of_block rb3)).trans rb3
  have rc4 := (hbd.block _ (lt_of_block rc3)).trans rc3
  have hbz := hb2.trans (hb3.mono hb2.size)
  have hb4 := hbz.trans (hbd.mono hbz.size)
  generalize World.alloc w3 _ = w4 at rd hbd ra4 rb4 rc4 hb4 ⊢
  obtain ⟨g2, hg2⟩ : ∃ g, g = w3.heap.size := ⟨_, rfl⟩
  rw [← hg2] at rd ⊢
  clear y0 y1 y2 y3 ra2 rb2 rc hb2 ra3 rb3 rc3 hb3 hbd hbz hg2
  have za := row_cell ra4 1
  have zb := row_cell rb4 1
  have zc := row_cell rc4 0
  have zd := row_cell rd 0
  simp at za zb zc zd
  clear ra4 rb4 rc4 rd
  go_wp2_with fail
  go_ret2
  exact ⟨rfl, hb4⟩
set_option maxHeartbeats 2000000 in
theorem cmp_ny (fb : Int) (ob : Bool) (ka kb : Int) (xa ta la xb tb lb : ByteArray) (w : World) 
    (ha : ∀ w, Calls Tryz.prog 28 #[.agg #[.int .i64 ka, .string xa, .string ta, .string la]] w (VdN w))
    (hb : ∀ w, Calls Tryz.prog 28 #[.agg #[.int .i64 kb, .string xb, .string tb, .string lb]] w (VdY fb ob w)) :
    Calls Tryz.prog 17 #[.agg #[.int .i64 ka, .string xa, .string ta, .string la], .agg #[.int .i64 kb, .string xb, .string tb, .string lb]] w fun e w' => e = .returned (.tuple #[.int .i64 (0), .bool false]) ∧ Below w.heap.size w w' := by
  have HA := Lib.hid ha
  have HB := Lib.hid hb
  clear ha hb
  go_enter Tryz.func17, Tryz.ntmps17
  go_upto_region 2 with (go_at_call 28; (with_reducible refine (HA.out _).mono ?_); rintro e w1 ⟨rfl, hb1⟩)
  obtain ⟨ra, rb, hab⟩ := box2 w (.cells #[.int .i64 ka, .string xa, .string ta, .string la] 33) (.cells #[.int .i64 kb, .string xb, .string tb, .string lb] 33)
  have sab : ((w.alloc (.cells #[.int .i64 ka, .string xa, .string ta, .string la] 33)).alloc (.cells #[.int .i64 kb, .string xb, .string tb, .string lb] 33)).heap.size = w.heap.size + 2 := by simp
  generalize World.alloc (World.alloc w _) _ = w0 at ra rb hab hb1 sab ⊢
  have ra1 := (hb1.block _ (by omega)).trans ra
  have rb1 := (hb1.block _ (by omega)).trans rb
  have hbz := hab.trans (hb1.mono hab.size)
  obtain ⟨rc, hbc⟩ := box1 w1 (.cells #[.int .i64 0, .nilFunc, .nilFunc] 44)
  have ra2 := (hbc.block _ (lt_of_block ra1)).trans ra1
  have rb2 := (hbc.block _ (lt_of_block rb1)).trans rb1
  have hb2 := hbz.trans (hbc.mono hbz.size)
  generalize World.alloc w1 _ = w2 at rc hbc ra2 rb2 hb2 ⊢
  obtain ⟨g1, hg1⟩ : ∃ g, g = w1.heap.size := ⟨_, rfl⟩
  rw [← hg1] at rc ⊢
  have y0 := row_cell rb2 0
  have y1 := row_cell rb2 1
  have y2 := row_cell rb2 2
  have y3 := row_cell rb2 3
  simp at y0 y1 y2 y3
  clear ra rb hab hb1 sab ra1 rb1 hbz hbc hg1
  go_upto_region 3 with (go_at_call 28; (with_reducible refine (HB.out _).mono ?_); rintro e w3 ⟨F2, G2, cp2, rfl, hb3⟩)
  have ra3 := (hb3.block _ (lt_of_block ra2)).trans ra2
  have rb3 := (hb3.block _ (lt_of_block rb2)).trans rb2
  have rc3 := (hb3.block _ (lt_of_block rc)).trans rc
  obtain ⟨rd, hbd⟩ := box1 w3 (.cells #[.int .i64 fb, .func (.func F2) #[] cp2, .func (.func G2) #[] #[]] 44)
  have ra4 := (hbd.block _ (lt_of_block ra3)).trans ra3
  have rb4 := (hbd.block _ (lt_of_block rb3)).trans rb3
  have rc4 := (hbd.block _ (lt_of_block rc3)).trans rc3
  have hbz := hb2.trans (hb3.mono hb2.size)
  have hb4 := hbz.trans (hbd.mono hbz.size)
  generalize World.alloc w3 _ = w4 at rd hbd ra4 rb4 rc4 hb4 ⊢
  obtain ⟨g2, hg2⟩ : ∃ g, g = w3.heap.size := ⟨_, rfl⟩
  rw [← hg2] at rd ⊢
  clear y0 y1 y2 y3 ra2 rb2 rc hb2 ra3 rb3 rc3 hb3 hbd hbz hg2
  have za := row_cell ra4 1
  have zb := row_cell rb4 1
  have zc := row_cell rc4 0
  have zd := row_cell rd 0
  simp at za zb zc zd
  clear ra4 rb4 rc4 rd
  go_wp2_with fail
  go_ret2
  exact ⟨rfl, hb4⟩
set_option maxHeartbeats 2000000 in
theorem cmp_yn (fa : Int) (oa : Bool) (ka kb : Int) (xa ta la xb tb lb : ByteArray) (w : World) 
    (ha : ∀ w, Calls Tryz.prog 28 #[.agg #[.int .i64 ka, .string xa, .string ta, .string la]] w (VdY fa oa w))
    (hb : ∀ w, Calls Tryz.prog 28 #[.agg #[.int .i64 kb, .string xb, .string tb, .string lb]] w (VdN w)) :
    Calls Tryz.prog 17 #[.agg #[.int .i64 ka, .string xa, .string ta, .string la], .agg #[.int .i64 kb, .string xb, .string tb, .string lb]] w fun e w' => e = .returned (.tuple #[.int .i64 (0), .bool false]) ∧ Below w.heap.size w w' := by
  have HA := Lib.hid ha
  have HB := Lib.hid hb
  clear ha hb
  go_enter Tryz.func17, Tryz.ntmps17
  go_upto_region 2 with (go_at_call 28; (with_reducible refine (HA.out _).mono ?_); rintro e w1 ⟨F1, G1, cp1, rfl, hb1⟩)
  obtain ⟨ra, rb, hab⟩ := box2 w (.cells #[.int .i64 ka, .string xa, .string ta, .string la] 33) (.cells #[.int .i64 kb, .string xb, .string tb, .string lb] 33)
  have sab : ((w.alloc (.cells #[.int .i64 ka, .string xa, .string ta, .string la] 33)).alloc (.cells #[.int .i64 kb, .string xb, .string tb, .string lb] 33)).heap.size = w.heap.size + 2 := by simp
  generalize World.alloc (World.alloc w _) _ = w0 at ra rb hab hb1 sab ⊢
  have ra1 := (hb1.block _ (by omega)).trans ra
  have rb1 := (hb1.block _ (by omega)).trans rb
  have hbz := hab.trans (hb1.mono hab.size)
  obtain ⟨rc, hbc⟩ := box1 w1 (.cells #[.int .i64 fa, .func (.func F1) #[] cp1, .func (.func G1) #[] #[]] 44)
  have ra2 := (hbc.block _ (lt_of_block ra1)).trans ra1
  have rb2 := (hbc.block _ (lt_of_block rb1)).trans rb1
  have hb2 := hbz.trans (hbc.mono hbz.size)
  generalize World.alloc w1 _ = w2 at rc hbc ra2 rb2 hb2 ⊢
  obtain ⟨g1, hg1⟩ : ∃ g, g = w1.heap.size := ⟨_, rfl⟩
  rw [← hg1] at rc ⊢
  have y0 := row_cell rb2 0
  have y1 := row_cell rb2 1
  have y2 := row_cell rb2 2
  have y3 := row_cell rb2 3
  simp at y0 y1 y2 y3
  clear ra rb hab hb1 sab ra1 rb1 hbz hbc hg1
  go_upto_region 3 with (go_at_call 28; (with_reducible refine (HB.out _).mono ?_); rintro e w3 ⟨rfl, hb3⟩)
  have ra3 := (hb3.block _ (lt_of_block ra2)).trans ra2
  have rb3 := (hb3.block _ (lt_of_block rb2)).trans rb2
  have rc3 := (hb3.block _ (lt_of_block rc)).trans rc
  obtain ⟨rd, hbd⟩ := box1 w3 (.cells #[.int .i64 0, .nilFunc, .nilFunc] 44)
  have ra4 := (hbd.block _ (lt_of_block ra3)).trans ra3
  have rb4 := (hbd.block _ (lt_of_block rb3)).trans rb3
  have rc4 := (hbd.block _ (lt_of_block rc3)).trans rc3
  have hbz := hb2.trans (hb3.mono hb2.size)
  have hb4 := hbz.trans (hbd.mono hbz.size)
  generalize World.alloc w3 _ = w4 at rd hbd ra4 rb4 rc4 hb4 ⊢
  obtain ⟨g2, hg2⟩ : ∃ g, g = w3.heap.size := ⟨_, rfl⟩
  rw [← hg2] at rd ⊢
  clear y0 y1 y2 y3 ra2 rb2 rc hb2 ra3 rb3 rc3 hb3 hbd hbz hg2
  have za := row_cell ra4 1
  have zb := row_cell rb4 1
  have zc := row_cell rc4 0
  have zd := row_cell rd 0
  simp at za zb zc zd
  clear ra4 rb4 rc4 rd
  cases oa with
  | false =>
    go_wp2_with fail
    go_ret2
    exact ⟨rfl, hb4⟩
  | true =>
    go_wp2_with fail
    go_ret2
    exact ⟨rfl, hb4⟩
set_option maxHeartbeats 2000000 in
theorem cmp_na (fa : Int) (fb : Int) (ob : Bool) (ka kb : Int) (xa ta la xb tb lb : ByteArray) (w : World) 
    (ha : ∀ w, Calls Tryz.prog 28 #[.agg #[.int .i64 ka, .string xa, .string ta, .string la]] w (VdY fa false w))
    (hb : ∀ w, Calls Tryz.prog 28 #[.agg #[.int .i64 kb, .string xb, .string tb, .string lb]] w (VdY fb ob w)) :
    Calls Tryz.prog 17 #[.agg #[.int .i64 ka, .string xa, .string ta, .string la], .agg #[.int .i64 kb, .string xb, .string tb, .string lb]] w fun e w' => e = .returned (.tuple #[.int .i64 (0), .bool false]) ∧ Below w.heap.size w w' := by
  have HA := Lib.hid ha
  have HB := Lib.hid hb
  clear ha hb
  go_enter Tryz.func17, Tryz.ntmps17
  go_upto_region 2 with (go_at_call 28; (with_reducible refine (HA.out _).mono ?_); rintro e w1 ⟨F1, G1, cp1, rfl, hb1⟩)
  obtain ⟨ra, rb, hab⟩ := box2 w (.cells #[.int .i64 ka, .string xa, .string ta, .string la] 33) (.cells #[.int .i64 kb, .string xb, .string tb, .string lb] 33)
  have sab : ((w.alloc (.cells #[.int .i64 ka, .string xa, .string ta, .string la] 33)).alloc (.cells #[.int .i64 kb, .string xb, .string tb, .string lb] 33)).heap.size = w.heap.size + 2 := by simp
  generalize World.alloc (World.alloc w _) _ = w0 at ra rb hab hb1 sab ⊢
  have ra1 := (hb1.block _ (by omega)).trans ra
  have rb1 := (hb1.block _ (by omega)).trans rb
  have hbz := hab.trans (hb1.mono hab.size)
  obtain ⟨rc, hbc⟩ := box1 w1 (.cells #[.int .i64 fa, .func (.func F1) #[] cp1, .func (.func G1) #[] #[]] 44)
  have ra2 := (hbc.block _ (lt_of_block ra1)).trans ra1
  have rb2 := (hbc.block _ (lt_of_block rb1)).trans rb1
  have hb2 := hbz.trans (hbc.mono hbz.size)
  generalize World.alloc w1 _ = w2 at rc hbc ra2 rb2 hb2 ⊢
  obtain ⟨g1, hg1⟩ : ∃ g, g = w1.heap.size := ⟨_, rfl⟩
  rw [← hg1] at rc ⊢
  have y0 := row_cell rb2 0
  have y1 := row_cell rb2 1
  have y2 := row_cell rb2 2
  have y3 := row_cell rb2 3
  simp at y0 y1 y2 y3
  clear ra rb hab hb1 sab ra1 rb1 hbz hbc hg1
  go_upto_region 3 with (go_at_call 28; (with_reducible refine (HB.out _).mono ?_); rintro e w3 ⟨F2, G2, cp2, rfl, hb3⟩)
  have ra3 := (hb3.block _ (lt_of_block ra2)).trans ra2
  have rb3 := (hb3.block _ (lt_of_block rb2)).trans rb2
  have rc3 := (hb3.block _ (lt_of_block rc)).trans rc
  obtain ⟨rd, hbd⟩ := box1 w3 (.cells #[.int .i64 fb, .func (.func F2) #[] cp2, .func (.func G2) #[] #[]] 44)
  have ra4 := (hbd.block _ (lt_of_block ra3)).trans ra3
  have rb4 := (hbd.block _ (lt_of_block rb3)).trans rb3
  have rc4 := (hbd.block _ (lt_of_block rc3)).trans rc3
  have hbz := hb2.trans (hb3.mono hb2.size)
  have hb4 := hbz.trans (hbd.mono hbz.size)
  generalize World.alloc w3 _ = w4 at rd hbd ra4 rb4 rc4 hb4 ⊢
  obtain ⟨g2, hg2⟩ : ∃ g, g = w3.heap.size := ⟨_, rfl⟩
  rw [← hg2] at rd ⊢
  clear y0 y1 y2 y3 ra2 rb2 rc hb2 ra3 rb3 rc3 hb3 hbd hbz hg2
  have za := row_cell ra4 1
  have zb := row_cell rb4 1
  have zc := row_cell rc4 0
  have zd := row_cell rd 0
  simp at za zb zc zd
  clear ra4 rb4 rc4 rd
  go_wp2_with fail
  go_ret2
  exact ⟨rfl, hb4⟩
set_option maxHeartbeats 2000000 in
theorem cmp_nb (fa : Int) (fb : Int) (ka kb : Int) (xa ta la xb tb lb : ByteArray) (w : World) 
    (ha : ∀ w, Calls Tryz.prog 28 #[.agg #[.int .i64 ka, .string xa, .string ta, .string la]] w (VdY fa true w))
    (hb : ∀ w, Calls Tryz.prog 28 #[.agg #[.int .i64 kb, .string xb, .string tb, .string lb]] w (VdY fb false w)) :
    Calls Tryz.prog 17 #[.agg #[.int .i64 ka, .string xa, .string ta, .string la], .agg #[.int .i64 kb, .string xb, .string tb, .string lb]] w fun e w' => e = .returned (.tuple #[.int .i64 (0), .bool false]) ∧ Below w.heap.size w w' := by
  have HA := Lib.hid ha
  have HB := Lib.hid hb
  clear ha hb
  go_enter Tryz.func17, Tryz.ntmps17
  go_upto_region 2 with (go_at_call 28; (with_reducible refine (HA.out _).mono ?_); rintro e w1 ⟨F1, G1, cp1, rfl, hb1⟩)
  obtain ⟨ra, rb, hab⟩ := box2 w (.cells #[.int .i64 ka, .string xa, .string ta, .string la] 33) (.cells #[.int .i64 kb, .string xb, .string tb, .string lb] 33)
  have sab : ((w.alloc (.cells #[.int .i64 ka, .string xa, .string ta, .string la] 33)).alloc (.cells #[.int .i64 kb, .string xb, .string tb, .string lb] 33)).heap.size = w.heap.size + 2 := by simp
  generalize World.alloc (World.alloc w _) _ = w0 at ra rb hab hb1 sab ⊢
  have ra1 := (hb1.block _ (by omega)).trans ra
  have rb1 := (hb1.block _ (by omega)).trans rb
  have hbz := hab.trans (hb1.mono hab.size)
  obtain ⟨rc, hbc⟩ := box1 w1 (.cells #[.int .i64 fa, .func (.func F1) #[] cp1, .func (.func G1) #[] #[]] 44)
  have ra2 := (hbc.block _ (lt_of_block ra1)).trans ra1
  have rb2 := (hbc.block _ (lt_of_block rb1)).trans rb1
  have hb2 := hbz.trans (hbc.mono hbz.size)
  generalize World.alloc w1 _ = w2 at rc hbc ra2 rb2 hb2 ⊢
  obtain ⟨g1, hg1⟩ : ∃ g, g = w1.heap.size := ⟨_, rfl⟩
  rw [← hg1] at rc ⊢
  have y0 := row_cell rb2 0
  have y1 := row_cell rb2 1
  have y2 := row_cell rb2 2
  have y3 := row_cell rb2 3
  simp at y0 y1 y2 y3
  clear ra rb hab hb1 sab ra1 rb1 hbz hbc hg1
  go_upto_region 3 with (go_at_call 28; (with_reducible refine (HB.out _).mono ?_); rintro e w3 ⟨F2, G2, cp2, rfl, hb3⟩)
  have ra3 := (hb3.block _ (lt_of_block ra2)).trans ra2
  have rb3 := (hb3.block _ (lt_of_block rb2)).trans rb2
  have rc3 := (hb3.block _ (lt_of_block rc)).trans rc
  obtain ⟨rd, hbd⟩ := box1 w3 (.cells #[.int .i64 fb, .func (.func F2) #[] cp2, .func (.func G2) #[] #[]] 44)
  have ra4 := (hbd.block _ (lt_of_block ra3)).trans ra3
  have rb4 := (hbd.block _ (lt_of_block rb3)).trans rb3
  have rc4 := (hbd.block _ (lt_of_block rc3)).trans rc3
  have hbz := hb2.trans (hb3.mono hb2.size)
  have hb4 := hbz.trans (hbd.mono hbz.size)
  generalize World.alloc w3 _ = w4 at rd hbd ra4 rb4 rc4 hb4 ⊢
  obtain ⟨g2, hg2⟩ : ∃ g, g = w3.heap.size := ⟨_, rfl⟩
  rw [← hg2] at rd ⊢
  clear y0 y1 y2 y3 ra2 rb2 rc hb2 ra3 rb3 rc3 hb3 hbd hbz hg2
  have za := row_cell ra4 1
  have zb := row_cell rb4 1
  have zc := row_cell rc4 0
  have zd := row_cell rd 0
  simp at za zb zc zd
  clear ra4 rb4 rc4 rd
  go_wp2_with fail
  go_ret2
  exact ⟨rfl, hb4⟩
set_option maxHeartbeats 2000000 in
theorem cmp_nf (fa : Int) (fb : Int) (ka kb : Int) (xa ta la xb tb lb : ByteArray) (w : World) (hf : fa ≠ fb)
    (ha : ∀ w, Calls Tryz.prog 28 #[.agg #[.int .i64 ka, .string xa, .string ta, .string la]] w (VdY fa true w))
    (hb : ∀ w, Calls Tryz.prog 28 #[.agg #[.int .i64 kb, .string xb, .string tb, .string lb]] w (VdY fb true w)) :
    Calls Tryz.prog 17 #[.agg #[.int .i64 ka, .string xa, .string ta, .string la], .agg #[.int .i64 kb, .string xb, .string tb, .string lb]] w fun e w' => e = .returned (.tuple #[.int .i64 (0), .bool false]) ∧ Below w.heap.size w w' := by
  have ef : (fa == fb) = false := by simpa using hf
  clear hf
  have HA := Lib.hid ha
  have HB := Lib.hid hb
  clear ha hb
  go_enter Tryz.func17, Tryz.ntmps17
  go_upto_region 2 with (go_at_call 28; (with_reducible refine (HA.out _).mono ?_); rintro e w1 ⟨F1, G1, cp1, rfl, hb1⟩)
  obtain ⟨ra, rb, hab⟩ := box2 w (.cells #[.int .i64 ka, .string xa, .string ta, .string la] 33) (.cells #[.int .i64 kb, .string xb, .string tb, .string lb] 33)
  have sab : ((w.alloc (.cells #[.int .i64 ka, .string xa, .string ta, .string la] 33)).alloc (.cells #[.int .i64 kb, .string xb, .string tb, .string lb] 33)).heap.size = w.heap.size + 2 := by simp
  generalize World.alloc (World.alloc w _) _ = w0 at ra rb hab hb1 sab ⊢
  have ra1 := (hb1.block _ (by omega)).trans ra
  have rb1 := (hb1.block _ (by omega)).trans rb
  have hbz := hab.trans (hb1.mono hab.size)
  obtain ⟨rc, hbc⟩ := box1 w1 (.cells #[.int .i64 fa, .func (.func F1) #[] cp1, .func (.func G1) #[] #[]] 44)
  have ra2 := (hbc.block _ (lt_of_block ra1)).trans ra1
  have rb2 := (hbc.block _ (lt_of_block rb1)).trans rb1
  have hb2 := hbz.trans (hbc.mono hbz.size)
  generalize World.alloc w1 _ = w2 at rc hbc ra2 rb2 hb2 ⊢
  obtain ⟨g1, hg1⟩ : ∃ g, g = w1.heap.size := ⟨_, rfl⟩
  rw [← hg1] at rc ⊢
  have y0 := row_cell rb2 0
  have y1 := row_cell rb2 1
  have y2 := row_cell rb2 2
  have y3 := row_cell rb2 3
  simp at y0 y1 y2 y3
  clear ra rb hab hb1 sab ra1 rb1 hbz hbc hg1
  go_upto_region 3 with (go_at_call 28; (with_reducible refine (HB.out _).mono ?_); rintro e w3 ⟨F2, G2, cp2, rfl, hb3⟩)
  have ra3 := (hb3.block _ (lt_of_block ra2)).trans ra2
  have rb3 := (hb3.block _ (lt_of_block rb2)).trans rb2
  have rc3 := (hb3.block _ (lt_of_block rc)).trans rc
  obtain ⟨rd, hbd⟩ := box1 w3 (.cells #[.int .i64 fb, .func (.func F2) #[] cp2, .func (.func G2) #[] #[]] 44)
  have ra4 := (hbd.block _ (lt_of_block ra3)).trans ra3
  have rb4 := (hbd.block _ (lt_of_block rb3)).trans rb3
  have rc4 := (hbd.block _ (lt_of_block rc3)).trans rc3
  have hbz := hb2.trans (hb3.mono hb2.size)
  have hb4 := hbz.trans (hbd.mono hbz.size)
  generalize World.alloc w3 _ = w4 at rd hbd ra4 rb4 rc4 hb4 ⊢
  obtain ⟨g2, hg2⟩ : ∃ g, g = w3.heap.size := ⟨_, rfl⟩
  rw [← hg2] at rd ⊢
  clear y0 y1 y2 y3 ra2 rb2 rc hb2 ra3 rb3 rc3 hb3 hbd hbz hg2
  have za := row_cell ra4 1
  have zb := row_cell rb4 1
  have zc := row_cell rc4 0
  have zd := row_cell rd 0
  simp at za zb zc zd
  clear ra4 rb4 rc4 rd
  go_wp2_with fail
  go_ret2
  exact ⟨rfl, hb4⟩
set_option maxHeartbeats 2000000 in
theorem cmp_0 (ka kb : Int) (xa ta la xb tb lb : ByteArray) (w : World) 
    (ha : ∀ w, Calls Tryz.prog 28 #[.agg #[.int .i64 ka, .string xa, .string ta, .string la]] w (VdY 0 true w))
    (hb : ∀ w, Calls Tryz.prog 28 #[.agg #[.int .i64 kb, .string xb, .string tb, .string lb]] w (VdY 0 true w)) :
    Calls Tryz.prog 17 #[.agg #[.int .i64 ka, .string xa, .string ta, .string la], .agg #[.int .i64 kb, .string xb, .string tb, .string lb]] w fun e w' => e = .returned (.tuple #[.int .i64 (cmB xa.data.toList xb.data.toList), .bool true]) ∧ Below w.heap.size w w' := by
  have hc := fun w => compare_calls xa xb w
  obtain ⟨c, hcc⟩ : ∃ c, c = cmB xa.data.toList xb.data.toList := ⟨_, rfl⟩
  rw [← hcc] at hc ⊢
  have HC := Lib.hid hc
  clear hc hcc
  have HA := Lib.hid ha
  have HB := Lib.hid hb
  clear ha hb
  go_enter Tryz.func17, Tryz.ntmps17
  go_upto_region 2 with (go_at_call 28; (with_reducible refine (HA.out _).mono ?_); rintro e w1 ⟨F1, G1, cp1, rfl, hb1⟩)
  obtain ⟨ra, rb, hab⟩ := box2 w (.cells #[.int .i64 ka, .string xa, .string ta, .string la] 33) (.cells #[.int .i64 kb, .string xb, .string tb, .string lb] 33)
  have sab : ((w.alloc (.cells #[.int .i64 ka, .string xa, .string ta, .string la] 33)).alloc (.cells #[.int .i64 kb, .string xb, .string tb, .string lb] 33)).heap.size = w.heap.size + 2 := by simp
  generalize World.alloc (World.alloc w _) _ = w0 at ra rb hab hb1 sab ⊢
  have ra1 := (hb1.block _ (by omega)).trans ra
  have rb1 := (hb1.block _ (by omega)).trans rb
  have hbz := hab.trans (hb1.mono hab.size)
  obtain ⟨rc, hbc⟩ := box1 w1 (.cells #[.int .i64 0, .func (.func F1) #[] cp1, .func (.func G1) #[] #[]] 44)
  have ra2 := (hbc.block _ (lt_of_block ra1)).trans ra1
  have rb2 := (hbc.block _ (lt_of_block rb1)).trans rb1
  have hb2 := hbz.trans (hbc.mono hbz.size)
  generalize World.alloc w1 _ = w2 at rc hbc ra2 rb2 hb2 ⊢
  obtain ⟨g1, hg1⟩ : ∃ g, g = w1.heap.size := ⟨_, rfl⟩
  rw [← hg1] at rc ⊢
  have y0 := row_cell rb2 0
  have y1 := row_cell rb2 1
  have y2 := row_cell rb2 2
  have y3 := row_cell rb2 3
  simp at y0 y1 y2 y3
  clear ra rb hab hb1 sab ra1 rb1 hbz hbc hg1
  go_upto_region 3 with (go_at_call 28; (with_reducible refine (HB.out _).mono ?_); rintro e w3 ⟨F2, G2, cp2, rfl, hb3⟩)
  have ra3 := (hb3.block _ (lt_of_block ra2)).trans ra2
  have rb3 := (hb3.block _ (lt_of_block rb2)).trans rb2
  have rc3 := (hb3.block _ (lt_of_block rc)).trans rc
  obtain ⟨rd, hbd⟩ := box1 w3 (.cells #[.int .i64 0, .func (.func F2) #[] cp2, .func (.func G2) #[] #[]] 44)
  have ra4 := (hbd.block _ (lt_of_block ra3)).trans ra3
  have rb4 := (hbd.block _ (lt_of_block rb3)).trans rb3
  have rc4 := (hbd.block _ (lt_of_block rc3)).trans rc3
  have hbz := hb2.trans (hb3.mono hb2.size)
  have hb4 := hbz.trans (hbd.mono hbz.size)
  generalize World.alloc w3 _ = w4 at rd hbd ra4 rb4 rc4 hb4 ⊢
  obtain ⟨g2, hg2⟩ : ∃ g, g = w3.heap.size := ⟨_, rfl⟩
  rw [← hg2] at rd ⊢
  clear y0 y1 y2 y3 ra2 rb2 rc hb2 ra3 rb3 rc3 hb3 hbd hbz hg2
  have za := row_cell ra4 1
  have zb := row_cell rb4 1
  have zc := row_cell rc4 0
  have zd := row_cell rd 0
  simp at za zb zc zd
  clear ra4 rb4 rc4 rd
  go_wp2_with (go_at_call 32; (with_reducible refine (HC.out _).mono ?_); rintro e w5 ⟨rfl, rfl⟩)
  go_ret2
  exact ⟨rfl, hb4⟩
set_option maxHeartbeats 2000000 in
theorem cmp_2 (ka kb : Int) (xa ta la xb tb lb : ByteArray) (w : World) (hsa : xa.size ≤ 4000000000) (hsb : xb.size ≤ 4000000000) 
    (ha : ∀ w, Calls Tryz.prog 28 #[.agg #[.int .i64 ka, .string xa, .string ta, .string la]] w (VdY 2 true w))
    (hb : ∀ w, Calls Tryz.prog 28 #[.agg #[.int .i64 kb, .string xb, .string tb, .string lb]] w (VdY 2 true w)) :
    Calls Tryz.prog 17 #[.agg #[.int .i64 ka, .string xa, .string ta, .string la], .agg #[.int .i64 kb, .string xb, .string tb, .string lb]] w fun e w' => e = .returned (.tuple #[.int .i64 ((agN (nuN xa.data.toList) (nuN xb.data.toList)).1), .bool (agN (nuN xa.data.toList) (nuN xb.data.toList)).2]) ∧ Below w.heap.size w w' := by
  have hna := fun w => numeral_calls xa w hsa
  have hnb := fun w => numeral_calls xb w hsb
  have hag := fun w => against_calls (nuN xa.data.toList) (nuN xb.data.toList) w (nuN_inf _) (nuN_inf _)
  obtain ⟨c, hc⟩ : ∃ c, c = (agN (nuN xa.data.toList) (nuN xb.data.toList)).1 := ⟨_, rfl⟩
  obtain ⟨k, hk⟩ : ∃ c, c = (agN (nuN xa.data.toList) (nuN xb.data.toList)).2 := ⟨_, rfl⟩
  rw [← hc, ← hk] at hag ⊢
  obtain ⟨MA, hMA⟩ : ∃ m, m = (nuN xa.data.toList).val := ⟨_, rfl⟩
  obtain ⟨MB, hMB⟩ : ∃ m, m = (nuN xb.data.toList).val := ⟨_, rfl⟩
  rw [← hMA] at hna hag
  rw [← hMB] at hnb hag
  have HNA := Lib.hid hna
  have HNB := Lib.hid hnb
  have HAG := Lib.hid hag
  clear hna hnb hag hc hk hMA hMB hsa hsb
  have HA := Lib.hid ha
  have HB := Lib.hid hb
  clear ha hb
  go_enter Tryz.func17, Tryz.ntmps17
  go_upto_region 2 with (go_at_call 28; (with_reducible refine (HA.out _).mono ?_); rintro e w1 ⟨F1, G1, cp1, rfl, hb1⟩)
  obtain ⟨ra, rb, hab⟩ := box2 w (.cells #[.int .i64 ka, .string xa, .string ta, .string la] 33) (.cells #[.int .i64 kb, .string xb, .string tb, .string lb] 33)
  have sab : ((w.alloc (.cells #[.int .i64 ka, .string xa, .string ta, .string la] 33)).alloc (.cells #[.int .i64 kb, .string xb, .string tb, .string lb] 33)).heap.size = w.heap.size + 2 := by simp
  generalize World.alloc (World.alloc w _) _ = w0 at ra rb hab hb1 sab ⊢
  have ra1 := (hb1.block _ (by omega)).trans ra
  have rb1 := (hb1.block _ (by omega)).trans rb
  have hbz := hab.trans (hb1.mono hab.size)
  obtain ⟨rc, hbc⟩ := box1 w1 (.cells #[.int .i64 2, .func (.func F1) #[] cp1, .func (.func G1) #[] #[]] 44)
  have ra2 := (hbc.block _ (lt_of_block ra1)).trans ra1
  have rb2 := (hbc.block _ (lt_of_block rb1)).trans rb1
  have hb2 := hbz.trans (hbc.mono hbz.size)
  generalize World.alloc w1 _ = w2 at rc hbc ra2 rb2 hb2 ⊢
  obtain ⟨g1, hg1⟩ : ∃ g, g = w1.heap.size := ⟨_, rfl⟩
  rw [← hg1] at rc ⊢
  have y0 := row_cell rb2 0
  have y1 := row_cell rb2 1
  have y2 := row_cell rb2 2
  have y3 := row_cell rb2 3
  simp at y0 y1 y2 y3
  clear ra rb hab hb1 sab ra1 rb1 hbz hbc hg1
  go_upto_region 3 with (go_at_call 28; (with_reducible refine (HB.out _).mono ?_); rintro e w3 ⟨F2, G2, cp2, rfl, hb3⟩)
  have ra3 := (hb3.block _ (lt_of_block ra2)).trans ra2
  have rb3 := (hb3.block _ (lt_of_block rb2)).trans rb2
  have rc3 := (hb3.block _ (lt_of_block rc)).trans rc
  obtain ⟨rd, hbd⟩ := box1 w3 (.cells #[.int .i64 2, .func (.func F2) #[] cp2, .func (.func G2) #[] #[]] 44)
  have ra4 := (hbd.block _ (lt_of_block ra3)).trans ra3
  have rb4 := (hbd.block _ (lt_of_block rb3)).trans rb3
  have rc4 := (hbd.block _ (lt_of_block rc3)).trans rc3
  have hbz := hb2.trans (hb3.mono hb2.size)
  have hb4 := hbz.trans (hbd.mono hbz.size)
  generalize World.alloc w3 _ = w4 at rd hbd ra4 rb4 rc4 hb4 ⊢
  obtain ⟨g2, hg2⟩ : ∃ g, g = w3.heap.size := ⟨_, rfl⟩
  rw [← hg2] at rd ⊢
  clear y0 y1 y2 y3 ra2 rb2 rc hb2 ra3 rb3 rc3 hb3 hbd hbz hg2
  have za := row_cell ra4 1
  have zb := row_cell rb4 1
  have zc := row_cell rc4 0
  have zd := row_cell rd 0
  simp at za zb zc zd
  clear ra4 rb4 rc4 rd
  go_upto_region 7 with fail
  have z1 := Lw.cell za
  have z2 := Lw.cell zb
  refine wp_region_lw (by kernel_rfl) (by kernel_rfl) ?_
  repeat (go_big_quiet_step (first | exact rfl | (go_at_call 29; (first | with_reducible exact lw_call (HNA.out _) | with_reducible exact lw_call (HNB.out _))) | (go_at_call 30; with_reducible exact lw_call (HAG.out _))))
  refine wpQuiet_nil ?_
  rintro ⟨w5, hb5⟩
  dsimp only
  have hb6 := hb4.trans (hb5.mono hb4.size)
  clear z1 z2 za zb zc zd hb4 hb5
  go_wp2_with fail
  go_ret2
  exact ⟨rfl, hb6⟩
set_option maxHeartbeats 2000000 in
theorem cmp_1 (ka kb : Int) (xa ta la xb tb lb : ByteArray) (w : World) 
    (ha : ∀ w, Calls Tryz.prog 28 #[.agg #[.int .i64 ka, .string xa, .string ta, .string la]] w (VdY 1 true w))
    (hb : ∀ w, Calls Tryz.prog 28 #[.agg #[.int .i64 kb, .string xb, .string tb, .string lb]] w (VdY 1 true w)) :
    Calls Tryz.prog 17 #[.agg #[.int .i64 ka, .string xa, .string ta, .string la], .agg #[.int .i64 kb, .string xb, .string tb, .string lb]] w fun e w' => e = .returned (.tuple #[.int .i64 (cmB (truP xa.data.toList) (truP xb.data.toList)), .bool true]) ∧ Below w.heap.size w w' := by
  obtain ⟨A, hA⟩ : ∃ l : ByteArray, l = ⟨(truP xa.data.toList).toArray⟩ := ⟨_, rfl⟩
  obtain ⟨B, hB⟩ : ∃ l : ByteArray, l = ⟨(truP xb.data.toList).toArray⟩ := ⟨_, rfl⟩
  obtain ⟨o1, ho1⟩ : ∃ l : Bool, l = true := ⟨_, rfl⟩
  obtain ⟨o2, ho2⟩ : ∃ l : Bool, l = true := ⟨_, rfl⟩
  have h1 : ∀ w, Calls Tryz.prog 31 #[.string xa] w fun e w' => e = .returned (.tuple #[.string A, .bool o1]) ∧ w = w' := fun w => by rw [hA, ho1]; exact truth_calls xa w
  have h2 : ∀ w, Calls Tryz.prog 31 #[.string xb] w fun e w' => e = .returned (.tuple #[.string B, .bool o2]) ∧ w = w' := fun w => by rw [hB, ho2]; exact truth_calls xb w
  have hc := fun w => compare_calls A B w
  have eA : A.data.toList = truP xa.data.toList := by rw [hA]
  have eB : B.data.toList = truP xb.data.toList := by rw [hB]
  rw [eA, eB] at hc
  obtain ⟨c, hcc⟩ : ∃ c, c = cmB (truP xa.data.toList) (truP xb.data.toList) := ⟨_, rfl⟩
  rw [← hcc] at hc ⊢
  have HC := Lib.hid hc
  have H1 := Lib.hid h1
  have H2 := Lib.hid h2
  clear hc hcc h1 h2 hA hB eA eB ho1 ho2
  have HA := Lib.hid ha
  have HB := Lib.hid hb
  clear ha hb
  go_enter Tryz.func17, Tryz.ntmps17
  go_upto_region 2 with (go_at_call 28; (with_reducible refine (HA.out _).mono ?_); rintro e w1 ⟨F1, G1, cp1, rfl, hb1⟩)
  obtain ⟨ra, rb, hab⟩ := box2 w (.cells #[.int .i64 ka, .string xa, .string ta, .string la] 33) (.cells #[.int .i64 kb, .string xb, .string tb, .string lb] 33)
  have sab : ((w.alloc (.cells #[.int .i64 ka, .string xa, .string ta, .string la] 33)).alloc (.cells #[.int .i64 kb, .string xb, .string tb, .string lb] 33)).heap.size = w.heap.size + 2 := by simp
  generalize World.alloc (World.alloc w _) _ = w0 at ra rb hab hb1 sab ⊢
  have ra1 := (hb1.block _ (by omega)).trans ra
  have rb1 := (hb1.block _ (by omega)).trans rb
  have hbz := hab.trans (hb1.mono hab.size)
  obtain ⟨rc, hbc⟩ := box1 w1 (.cells #[.int .i64 1, .func (.func F1) #[] cp1, .func (.func G1) #[] #[]] 44)
  have ra2 := (hbc.block _ (lt_of_block ra1)).trans ra1
  have rb2 := (hbc.block _ (lt_of_block rb1)).trans rb1
  have hb2 := hbz.trans (hbc.mono hbz.size)
  generalize World.alloc w1 _ = w2 at rc hbc ra2 rb2 hb2 ⊢
  obtain ⟨g1, hg1⟩ : ∃ g, g = w1.heap.size := ⟨_, rfl⟩
  rw [← hg1] at rc ⊢
  have y0 := row_cell rb2 0
  have y1 := row_cell rb2 1
  have y2 := row_cell rb2 2
  have y3 := row_cell rb2 3
  simp at y0 y1 y2 y3
  clear ra rb hab hb1 sab ra1 rb1 hbz hbc hg1
  go_upto_region 3 with (go_at_call 28; (with_reducible refine (HB.out _).mono ?_); rintro e w3 ⟨F2, G2, cp2, rfl, hb3⟩)
  have ra3 := (hb3.block _ (lt_of_block ra2)).trans ra2
  have rb3 := (hb3.block _ (lt_of_block rb2)).trans rb2
  have rc3 := (hb3.block _ (lt_of_block rc)).trans rc
  obtain ⟨rd, hbd⟩ := box1 w3 (.cells #[.int .i64 1, .func (.func F2) #[] cp2, .func (.func G2) #[] #[]] 44)
  have ra4 := (hbd.block _ (lt_of_block ra3)).trans ra3
  have rb4 := (hbd.block _ (lt_of_block rb3)).trans rb3
  have rc4 := (hbd.block _ (lt_of_block rc3)).trans rc3
  have hbz := hb2.trans (hb3.mono hb2.size)
  have hb4 := hbz.trans (hbd.mono hbz.size)
  generalize World.alloc w3 _ = w4 at rd hbd ra4 rb4 rc4 hb4 ⊢
  obtain ⟨g2, hg2⟩ : ∃ g, g = w3.heap.size := ⟨_, rfl⟩
  rw [← hg2] at rd ⊢
  clear y0 y1 y2 y3 ra2 rb2 rc hb2 ra3 rb3 rc3 hb3 hbd hbz hg2
  have za := row_cell ra4 1
  have zb := row_cell rb4 1
  have zc := row_cell rc4 0
  have zd := row_cell rd 0
  simp at za zb zc zd
  clear ra4 rb4 rc4 rd
  go_wp2_with (first | (go_at_call 31; (with_reducible refine (H1.out _).mono ?_); rintro e w5 ⟨rfl, rfl⟩) | (go_at_call 31; (with_reducible refine (H2.out _).mono ?_); rintro e w6 ⟨rfl, rfl⟩) | (go_at_call 32; (with_reducible refine (HC.out _).mono ?_); rintro e w7 ⟨rfl, rfl⟩))
  go_ret2
  exact ⟨rfl, hb4⟩
set_option maxHeartbeats 2000000 in
theorem cmp_6 (ka kb : Int) (xa ta la xb tb lb : ByteArray) (w : World) (hsa : xa.size ≤ 1000000000) (hsb : xb.size ≤ 1000000000) 
    (ha : ∀ w, Calls Tryz.prog 28 #[.agg #[.int .i64 ka, .string xa, .string ta, .string la]] w (VdY 6 true w))
    (hb : ∀ w, Calls Tryz.prog 28 #[.agg #[.int .i64 kb, .string xb, .string tb, .string lb]] w (VdY 6 true w)) :
    Calls Tryz.prog 17 #[.agg #[.int .i64 ka, .string xa, .string ta, .string la], .agg #[.int .i64 kb, .string xb, .string tb, .string lb]] w fun e w' => e = .returned (.tuple #[.int .i64 (cmB ((hexP (gtP xa.data.toList)).getD []) ((hexP (gtP xb.data.toList)).getD [])), .bool true]) ∧ Below w.heap.size w w' := by
  obtain ⟨A, hA⟩ : ∃ l : ByteArray, l = ⟨((hexP (gtP xa.data.toList)).getD []).toArray⟩ := ⟨_, rfl⟩
  obtain ⟨B, hB⟩ : ∃ l : ByteArray, l = ⟨((hexP (gtP xb.data.toList)).getD []).toArray⟩ := ⟨_, rfl⟩
  obtain ⟨o1, ho1⟩ : ∃ l : Bool, l = (hexP (gtP xa.data.toList)).isSome := ⟨_, rfl⟩
  obtain ⟨o2, ho2⟩ : ∃ l : Bool, l = (hexP (gtP xb.data.toList)).isSome := ⟨_, rfl⟩
  have h1 : ∀ w, Calls Tryz.prog 33 #[.string xa] w fun e w' => e = .returned (.tuple #[.string A, .bool o1]) ∧ Below w.heap.size w w' := fun w => by rw [hA, ho1]; exact hex_calls xa w hsa
  have h2 : ∀ w, Calls Tryz.prog 33 #[.string xb] w fun e w' => e = .returned (.tuple #[.string B, .bool o2]) ∧ Below w.heap.size w w' := fun w => by rw [hB, ho2]; exact hex_calls xb w hsb
  have hc := fun w => compare_calls A B w
  have eA : A.data.toList = (hexP (gtP xa.data.toList)).getD [] := by rw [hA]
  have eB : B.data.toList = (hexP (gtP xb.data.toList)).getD [] := by rw [hB]
  rw [eA, eB] at hc
  obtain ⟨c, hcc⟩ : ∃ c, c = cmB ((hexP (gtP xa.data.toList)).getD []) ((hexP (gtP xb.data.toList)).getD []) := ⟨_, rfl⟩
  rw [← hcc] at hc ⊢
  have HC := Lib.hid hc
  have H1 := Lib.hid h1
  have H2 := Lib.hid h2
  clear hc hcc h1 h2 hA hB eA eB ho1 ho2
  have HA := Lib.hid ha
  have HB := Lib.hid hb
  clear ha hb
  go_enter Tryz.func17, Tryz.ntmps17
  go_upto_region 2 with (go_at_call 28; (with_reducible refine (HA.out _).mono ?_); rintro e w1 ⟨F1, G1, cp1, rfl, hb1⟩)
  obtain ⟨ra, rb, hab⟩ := box2 w (.cells #[.int .i64 ka, .string xa, .string ta, .string la] 33) (.cells #[.int .i64 kb, .string xb, .string tb, .string lb] 33)
  have sab : ((w.alloc (.cells #[.int .i64 ka, .string xa, .string ta, .string la] 33)).alloc (.cells #[.int .i64 kb, .string xb, .string tb, .string lb] 33)).heap.size = w.heap.size + 2 := by simp
  generalize World.alloc (World.alloc w _) _ = w0 at ra rb hab hb1 sab ⊢
  have ra1 := (hb1.block _ (by omega)).trans ra
  have rb1 := (hb1.block _ (by omega)).trans rb
  have hbz := hab.trans (hb1.mono hab.size)
  obtain ⟨rc, hbc⟩ := box1 w1 (.cells #[.int .i64 6, .func (.func F1) #[] cp1, .func (.func G1) #[] #[]] 44)
  have ra2 := (hbc.block _ (lt_of_block ra1)).trans ra1
  have rb2 := (hbc.block _ (lt_of_block rb1)).trans rb1
  have hb2 := hbz.trans (hbc.mono hbz.size)
  generalize World.alloc w1 _ = w2 at rc hbc ra2 rb2 hb2 ⊢
  obtain ⟨g1, hg1⟩ : ∃ g, g = w1.heap.size := ⟨_, rfl⟩
  rw [← hg1] at rc ⊢
  have y0 := row_cell rb2 0
  have y1 := row_cell rb2 1
  have y2 := row_cell rb2 2
  have y3 := row_cell rb2 3
  simp at y0 y1 y2 y3
  clear ra rb hab hb1 sab ra1 rb1 hbz hbc hg1
  go_upto_region 3 with (go_at_call 28; (with_reducible refine (HB.out _).mono ?_); rintro e w3 ⟨F2, G2, cp2, rfl, hb3⟩)
  have ra3 := (hb3.block _ (lt_of_block ra2)).trans ra2
  have rb3 := (hb3.block _ (lt_of_block rb2)).trans rb2
  have rc3 := (hb3.block _ (lt_of_block rc)).trans rc
  obtain ⟨rd, hbd⟩ := box1 w3 (.cells #[.int .i64 6, .func (.func F2) #[] cp2, .func (.func G2) #[] #[]] 44)
  have ra4 := (hbd.block _ (lt_of_block ra3)).trans ra3
  have rb4 := (hbd.block _ (lt_of_block rb3)).trans rb3
  have rc4 := (hbd.block _ (lt_of_block rc3)).trans rc3
  have hbz := hb2.trans (hb3.mono hb2.size)
  have hb4 := hbz.trans (hbd.mono hbz.size)
  generalize World.alloc w3 _ = w4 at rd hbd ra4 rb4 rc4 hb4 ⊢
  obtain ⟨g2, hg2⟩ : ∃ g, g = w3.heap.size := ⟨_, rfl⟩
  rw [← hg2] at rd ⊢
  clear y0 y1 y2 y3 ra2 rb2 rc hb2 ra3 rb3 rc3 hb3 hbd hbz hg2
  have za := row_cell ra4 1
  have zb := row_cell rb4 1
  have zc := row_cell rc4 0
  have zd := row_cell rd 0
  simp at za zb zc zd
  clear ra4 rb4 rc4 rd
  go_wp2_with (first | (go_at_call 33; (with_reducible refine (H1.out _).mono ?_); rintro e w5 ⟨rfl, hb5⟩; (have zb5 := (hb5.cell (p := ⟨w.heap.size + 1, 1, none⟩) (block_lt_of_cell zb)).trans zb)) | (go_at_call 33; (with_reducible refine (H2.out _).mono ?_); rintro e w6 ⟨rfl, hb6⟩) | (go_at_call 32; (with_reducible refine (HC.out _).mono ?_); rintro e w7 ⟨rfl, rfl⟩))
  go_ret2
  exact ⟨rfl, (hb4.trans (hb5.mono hb4.size)).trans (hb6.mono (hb4.trans (hb5.mono hb4.size)).size)⟩
set_option maxHeartbeats 2000000 in
theorem cmp_7 (ka kb : Int) (xa ta la xb tb lb : ByteArray) (w : World) (hsa : xa.size ≤ 1000000000) (hsb : xb.size ≤ 1000000000) 
    (ha : ∀ w, Calls Tryz.prog 28 #[.agg #[.int .i64 ka, .string xa, .string ta, .string la]] w (VdY 7 true w))
    (hb : ∀ w, Calls Tryz.prog 28 #[.agg #[.int .i64 kb, .string xb, .string tb, .string lb]] w (VdY 7 true w)) :
    Calls Tryz.prog 17 #[.agg #[.int .i64 ka, .string xa, .string ta, .string la], .agg #[.int .i64 kb, .string xb, .string tb, .string lb]] w fun e w' => e = .returned (.tuple #[.int .i64 (cmB ((b6R xa.data.toList).1) ((b6R xb.data.toList).1)), .bool true]) ∧ Below w.heap.size w w' := by
  obtain ⟨A, hA⟩ : ∃ l : ByteArray, l = ⟨((b6R xa.data.toList).1).toArray⟩ := ⟨_, rfl⟩
  obtain ⟨B, hB⟩ : ∃ l : ByteArray, l = ⟨((b6R xb.data.toList).1).toArray⟩ := ⟨_, rfl⟩
  obtain ⟨o1, ho1⟩ : ∃ l : Bool, l = (b6R xa.data.toList).2 := ⟨_, rfl⟩
  obtain ⟨o2, ho2⟩ : ∃ l : Bool, l = (b6R xb.data.toList).2 := ⟨_, rfl⟩
  have h1 : ∀ w, Calls Tryz.prog 34 #[.string xa] w fun e w' => e = .returned (.tuple #[.string A, .bool o1]) ∧ Below w.heap.size w w' := fun w => by rw [hA, ho1]; exact base64_calls xa w hsa
  have h2 : ∀ w, Calls Tryz.prog 34 #[.string xb] w fun e w' => e = .returned (.tuple #[.string B, .bool o2]) ∧ Below w.heap.size w w' := fun w => by rw [hB, ho2]; exact base64_calls xb w hsb
  have hc := fun w => compare_calls A B w
  have eA : A.data.toList = (b6R xa.data.toList).1 := by rw [hA]
  have eB : B.data.toList = (b6R xb.data.toList).1 := by rw [hB]
  rw [eA, eB] at hc
  obtain ⟨c, hcc⟩ : ∃ c, c = cmB ((b6R xa.data.toList).1) ((b6R xb.data.toList).1) := ⟨_, rfl⟩
  rw [← hcc] at hc ⊢
  have HC := Lib.hid hc
  have H1 := Lib.hid h1
  have H2 := Lib.hid h2
  clear hc hcc h1 h2 hA hB eA eB ho1 ho2
  have HA := Lib.hid ha
  have HB := Lib.hid hb
  clear ha hb
  go_enter Tryz.func17, Tryz.ntmps17
  go_upto_region 2 with (go_at_call 28; (with_reducible refine (HA.out _).mono ?_); rintro e w1 ⟨F1, G1, cp1, rfl, hb1⟩)
  obtain ⟨ra, rb, hab⟩ := box2 w (.cells #[.int .i64 ka, .string xa, .string ta, .string la] 33) (.cells #[.int .i64 kb, .string xb, .string tb, .string lb] 33)
  have sab : ((w.alloc (.cells #[.int .i64 ka, .string xa, .string ta, .string la] 33)).alloc (.cells #[.int .i64 kb, .string xb, .string tb, .string lb] 33)).heap.size = w.heap.size + 2 := by simp
  generalize World.alloc (World.alloc w _) _ = w0 at ra rb hab hb1 sab ⊢
  have ra1 := (hb1.block _ (by omega)).trans ra
  have rb1 := (hb1.block _ (by omega)).trans rb
  have hbz := hab.trans (hb1.mono hab.size)
  obtain ⟨rc, hbc⟩ := box1 w1 (.cells #[.int .i64 7, .func (.func F1) #[] cp1, .func (.func G1) #[] #[]] 44)
  have ra2 := (hbc.block _ (lt_of_block ra1)).trans ra1
  have rb2 := (hbc.block _ (lt_of_block rb1)).trans rb1
  have hb2 := hbz.trans (hbc.mono hbz.size)
  generalize World.alloc w1 _ = w2 at rc hbc ra2 rb2 hb2 ⊢
  obtain ⟨g1, hg1⟩ : ∃ g, g = w1.heap.size := ⟨_, rfl⟩
  rw [← hg1] at rc ⊢
  have y0 := row_cell rb2 0
  have y1 := row_cell rb2 1
  have y2 := row_cell rb2 2
  have y3 := row_cell rb2 3
  simp at y0 y1 y2 y3
  clear ra rb hab hb1 sab ra1 rb1 hbz hbc hg1
  go_upto_region 3 with (go_at_call 28; (with_reducible refine (HB.out _).mono ?_); rintro e w3 ⟨F2, G2, cp2, rfl, hb3⟩)
  have ra3 := (hb3.block _ (lt_of_block ra2)).trans ra2
  have rb3 := (hb3.block _ (lt_of_block rb2)).trans rb2
  have rc3 := (hb3.block _ (lt_of_block rc)).trans rc
  obtain ⟨rd, hbd⟩ := box1 w3 (.cells #[.int .i64 7, .func (.func F2) #[] cp2, .func (.func G2) #[] #[]] 44)
  have ra4 := (hbd.block _ (lt_of_block ra3)).trans ra3
  have rb4 := (hbd.block _ (lt_of_block rb3)).trans rb3
  have rc4 := (hbd.block _ (lt_of_block rc3)).trans rc3
  have hbz := hb2.trans (hb3.mono hb2.size)
  have hb4 := hbz.trans (hbd.mono hbz.size)
  generalize World.alloc w3 _ = w4 at rd hbd ra4 rb4 rc4 hb4 ⊢
  obtain ⟨g2, hg2⟩ : ∃ g, g = w3.heap.size := ⟨_, rfl⟩
  rw [← hg2] at rd ⊢
  clear y0 y1 y2 y3 ra2 rb2 rc hb2 ra3 rb3 rc3 hb3 hbd hbz hg2
  have za := row_cell ra4 1
  have zb := row_cell rb4 1
  have zc := row_cell rc4 0
  have zd := row_cell rd 0
  simp at za zb zc zd
  clear ra4 rb4 rc4 rd
  go_wp2_with (first | (go_at_call 34; (with_reducible refine (H1.out _).mono ?_); rintro e w5 ⟨rfl, hb5⟩; (have zb5 := (hb5.cell (p := ⟨w.heap.size + 1, 1, none⟩) (block_lt_of_cell zb)).trans zb)) | (go_at_call 34; (with_reducible refine (H2.out _).mono ?_); rintro e w6 ⟨rfl, hb6⟩) | (go_at_call 32; (with_reducible refine (HC.out _).mono ?_); rintro e w7 ⟨rfl, rfl⟩))
  go_ret2
  exact ⟨rfl, (hb4.trans (hb5.mono hb4.size)).trans (hb6.mono (hb4.trans (hb5.mono hb4.size)).size)⟩
set_option maxHeartbeats 2000000 in
theorem cmp_3 (ka kb : Int) (xa ta la xb tb lb : ByteArray) (w : World) (c : Int) (k : Bool)
    (ht : ∀ w, Calls Tryz.prog 35 #[.string xa, .string xb, .func (.func 36) #[] #[]] w fun e w' => e = .returned (.tuple #[.int .i64 c, .bool k]) ∧ Below w.heap.size w w')
    (ha : ∀ w, Calls Tryz.prog 28 #[.agg #[.int .i64 ka, .string xa, .string ta, .string la]] w (VdY 3 true w))
    (hb : ∀ w, Calls Tryz.prog 28 #[.agg #[.int .i64 kb, .string xb, .string tb, .string lb]] w (VdY 3 true w)) :
    Calls Tryz.prog 17 #[.agg #[.int .i64 ka, .string xa, .string ta, .string la], .agg #[.int .i64 kb, .string xb, .string tb, .string lb]] w fun e w' => e = .returned (.tuple #[.int .i64 (c), .bool k]) ∧ Below w.heap.size w w' := by
  have HT := Lib.hid ht
  clear ht
  have HA := Lib.hid ha
  have HB := Lib.hid hb
  clear ha hb
  go_enter Tryz.func17, Tryz.ntmps17
  go_upto_region 2 with (go_at_call 28; (with_reducible refine (HA.out _).mono ?_); rintro e w1 ⟨F1, G1, cp1, rfl, hb1⟩)
  obtain ⟨ra, rb, hab⟩ := box2 w (.cells #[.int .i64 ka, .string xa, .string ta, .string la] 33) (.cells #[.int .i64 kb, .string xb, .string tb, .string lb] 33)
  have sab : ((w.alloc (.cells #[.int .i64 ka, .string xa, .string ta, .string la] 33)).alloc (.cells #[.int .i64 kb, .string xb, .string tb, .string lb] 33)).heap.size = w.heap.size + 2 := by simp
  generalize World.alloc (World.alloc w _) _ = w0 at ra rb hab hb1 sab ⊢
  have ra1 := (hb1.block _ (by omega)).trans ra
  have rb1 := (hb1.block _ (by omega)).trans rb
  have hbz := hab.trans (hb1.mono hab.size)
  obtain ⟨rc, hbc⟩ := box1 w1 (.cells #[.int .i64 3, .func (.func F1) #[] cp1, .func (.func G1) #[] #[]] 44)
  have ra2 := (hbc.block _ (lt_of_block ra1)).trans ra1
  have rb2 := (hbc.block _ (lt_of_block rb1)).trans rb1
  have hb2 := hbz.trans (hbc.mono hbz.size)
  generalize World.alloc w1 _ = w2 at rc hbc ra2 rb2 hb2 ⊢
  obtain ⟨g1, hg1⟩ : ∃ g, g = w1.heap.size := ⟨_, rfl⟩
  rw [← hg1] at rc ⊢
  have y0 := row_cell rb2 0
  have y1 := row_cell rb2 1
  have y2 := row_cell rb2 2
  have y3 := row_cell rb2 3
  simp at y0 y1 y2 y3
  clear ra rb hab hb1 sab ra1 rb1 hbz hbc hg1
  go_upto_region 3 with (go_at_call 28; (with_reducible refine (HB.out _).mono ?_); rintro e w3 ⟨F2, G2, cp2, rfl, hb3⟩)
  have ra3 := (hb3.block _ (lt_of_block ra2)).trans ra2
  have rb3 := (hb3.block _ (lt_of_block rb2)).trans rb2
  have rc3 := (hb3.block _ (lt_of_block rc)).trans rc
  obtain ⟨rd, hbd⟩ := box1 w3 (.cells #[.int .i64 3, .func (.func F2) #[] cp2, .func (.func G2) #[] #[]] 44)
  have ra4 := (hbd.block _ (lt_of_block ra3)).trans ra3
  have rb4 := (hbd.block _ (lt_of_block rb3)).trans rb3
  have rc4 := (hbd.block _ (lt_of_block rc3)).trans rc3
  have hbz := hb2.trans (hb3.mono hb2.size)
  have hb4 := hbz.trans (hbd.mono hbz.size)
  generalize World.alloc w3 _ = w4 at rd hbd ra4 rb4 rc4 hb4 ⊢
  obtain ⟨g2, hg2⟩ : ∃ g, g = w3.heap.size := ⟨_, rfl⟩
  rw [← hg2] at rd ⊢
  clear y0 y1 y2 y3 ra2 rb2 rc hb2 ra3 rb3 rc3 hb3 hbd hbz hg2
  have za := row_cell ra4 1
  have zb := row_cell rb4 1
  have zc := row_cell rc4 0
  have zd := row_cell rd 0
  simp at za zb zc zd
  clear ra4 rb4 rc4 rd
  go_wp2_with (go_at_call 35; (with_reducible refine (HT.out _).mono ?_); rintro e w5 ⟨rfl, hb5⟩)
  go_ret2
  exact ⟨rfl, hb4.trans (hb5.mono hb4.size)⟩
set_option maxHeartbeats 2000000 in
theorem cmp_4 (ka kb : Int) (xa ta la xb tb lb : ByteArray) (w : World) (c : Int) (k : Bool)
    (ht : ∀ w, Calls Tryz.prog 35 #[.string xa, .string xb, .func (.func 37) #[] #[]] w fun e w' => e = .returned (.tuple #[.int .i64 c, .bool k]) ∧ Below w.heap.size w w')
    (ha : ∀ w, Calls Tryz.prog 28 #[.agg #[.int .i64 ka, .string xa, .string ta, .string la]] w (VdY 4 true w))
    (hb : ∀ w, Calls Tryz.prog 28 #[.agg #[.int .i64 kb, .string xb, .string tb, .string lb]] w (VdY 4 true w)) :
    Calls Tryz.prog 17 #[.agg #[.int .i64 ka, .string xa, .string ta, .string la], .agg #[.int .i64 kb, .string xb, .string tb, .string lb]] w fun e w' => e = .returned (.tuple #[.int .i64 (c), .bool k]) ∧ Below w.heap.size w w' := by
  have HT := Lib.hid ht
  clear ht
  have HA := Lib.hid ha
  have HB := Lib.hid hb
  clear ha hb
  go_enter Tryz.func17, Tryz.ntmps17
  go_upto_region 2 with (go_at_call 28; (with_reducible refine (HA.out _).mono ?_); rintro e w1 ⟨F1, G1, cp1, rfl, hb1⟩)
  obtain ⟨ra, rb, hab⟩ := box2 w (.cells #[.int .i64 ka, .string xa, .string ta, .string la] 33) (.cells #[.int .i64 kb, .string xb, .string tb, .string lb] 33)
  have sab : ((w.alloc (.cells #[.int .i64 ka, .string xa, .string ta, .string la] 33)).alloc (.cells #[.int .i64 kb, .string xb, .string tb, .string lb] 33)).heap.size = w.heap.size + 2 := by simp
  generalize World.alloc (World.alloc w _) _ = w0 at ra rb hab hb1 sab ⊢
  have ra1 := (hb1.block _ (by omega)).trans ra
  have rb1 := (hb1.block _ (by omega)).trans rb
  have hbz := hab.trans (hb1.mono hab.size)
  obtain ⟨rc, hbc⟩ := box1 w1 (.cells #[.int .i64 4, .func (.func F1) #[] cp1, .func (.func G1) #[] #[]] 44)
  have ra2 := (hbc.block _ (lt_of_block ra1)).trans ra1
  have rb2 := (hbc.block _ (lt_of_block rb1)).trans rb1
  have hb2 := hbz.trans (hbc.mono hbz.size)
  generalize World.alloc w1 _ = w2 at rc hbc ra2 rb2 hb2 ⊢
  obtain ⟨g1, hg1⟩ : ∃ g, g = w1.heap.size := ⟨_, rfl⟩
  rw [← hg1] at rc ⊢
  have y0 := row_cell rb2 0
  have y1 := row_cell rb2 1
  have y2 := row_cell rb2 2
  have y3 := row_cell rb2 3
  simp at y0 y1 y2 y3
  clear ra rb hab hb1 sab ra1 rb1 hbz hbc hg1
  go_upto_region 3 with (go_at_call 28; (with_reducible refine (HB.out _).mono ?_); rintro e w3 ⟨F2, G2, cp2, rfl, hb3⟩)
  have ra3 := (hb3.block _ (lt_of_block ra2)).trans ra2
  have rb3 := (hb3.block _ (lt_of_block rb2)).trans rb2
  have rc3 := (hb3.block _ (lt_of_block rc)).trans rc
  obtain ⟨rd, hbd⟩ := box1 w3 (.cells #[.int .i64 4, .func (.func F2) #[] cp2, .func (.func G2) #[] #[]] 44)
  have ra4 := (hbd.block _ (lt_of_block ra3)).trans ra3
  have rb4 := (hbd.block _ (lt_of_block rb3)).trans rb3
  have rc4 := (hbd.block _ (lt_of_block rc3)).trans rc3
  have hbz := hb2.trans (hb3.mono hb2.size)
  have hb4 := hbz.trans (hbd.mono hbz.size)
  generalize World.alloc w3 _ = w4 at rd hbd ra4 rb4 rc4 hb4 ⊢
  obtain ⟨g2, hg2⟩ : ∃ g, g = w3.heap.size := ⟨_, rfl⟩
  rw [← hg2] at rd ⊢
  clear y0 y1 y2 y3 ra2 rb2 rc hb2 ra3 rb3 rc3 hb3 hbd hbz hg2
  have za := row_cell ra4 1
  have zb := row_cell rb4 1
  have zc := row_cell rc4 0
  have zd := row_cell rd 0
  simp at za zb zc zd
  clear ra4 rb4 rc4 rd
  go_wp2_with (go_at_call 35; (with_reducible refine (HT.out _).mono ?_); rintro e w5 ⟨rfl, hb5⟩)
  go_ret2
  exact ⟨rfl, hb4.trans (hb5.mono hb4.size)⟩
set_option maxHeartbeats 2000000 in
theorem cmp_5 (ka kb : Int) (xa ta la xb tb lb : ByteArray) (w : World) (c : Int) (k : Bool)
    (ht : ∀ w, Calls Tryz.prog 35 #[.string xa, .string xb, .func (.func 38) #[] #[]] w fun e w' => e = .returned (.tuple #[.int .i64 c, .bool k]) ∧ Below w.heap.size w w')
    (ha : ∀ w, Calls Tryz.prog 28 #[.agg #[.int .i64 ka, .string xa, .string ta, .string la]] w (VdY 5 true w))
    (hb : ∀ w, Calls Tryz.prog 28 #[.agg #[.int .i64 kb, .string xb, .string tb, .string lb]] w (VdY 5 true w)) :
    Calls Tryz.prog 17 #[.agg #[.int .i64 ka, .string xa, .string ta, .string la], .agg #[.int .i64 kb, .string xb, .string tb, .string lb]] w fun e w' => e = .returned (.tuple #[.int .i64 (c), .bool k]) ∧ Below w.heap.size w w' := by
  have HT := Lib.hid ht
  clear ht
  have HA := Lib.hid ha
  have HB := Lib.hid hb
  clear ha hb
  go_enter Tryz.func17, Tryz.ntmps17
  go_upto_region 2 with (go_at_call 28; (with_reducible refine (HA.out _).mono ?_); rintro e w1 ⟨F1, G1, cp1, rfl, hb1⟩)
  obtain ⟨ra, rb, hab⟩ := box2 w (.cells #[.int .i64 ka, .string xa, .string ta, .string la] 33) (.cells #[.int .i64 kb, .string xb, .string tb, .string lb] 33)
  have sab : ((w.alloc (.cells #[.int .i64 ka, .string xa, .string ta, .string la] 33)).alloc (.cells #[.int .i64 kb, .string xb, .string tb, .string lb] 33)).heap.size = w.heap.size + 2 := by simp
  generalize World.alloc (World.alloc w _) _ = w0 at ra rb hab hb1 sab ⊢
  have ra1 := (hb1.block _ (by omega)).trans ra
  have rb1 := (hb1.block _ (by omega)).trans rb
  have hbz := hab.trans (hb1.mono hab.size)
  obtain ⟨rc, hbc⟩ := box1 w1 (.cells #[.int .i64 5, .func (.func F1) #[] cp1, .func (.func G1) #[] #[]] 44)
  have ra2 := (hbc.block _ (lt_of_block ra1)).trans ra1
  have rb2 := (hbc.block _ (lt_of_block rb1)).trans rb1
  have hb2 := hbz.trans (hbc.mono hbz.size)
  generalize World.alloc w1 _ = w2 at rc hbc ra2 rb2 hb2 ⊢
  obtain ⟨g1, hg1⟩ : ∃ g, g = w1.heap.size := ⟨_, rfl⟩
  rw [← hg1] at rc ⊢
  have y0 := row_cell rb2 0
  have y1 := row_cell rb2 1
  have y2 := row_cell rb2 2
  have y3 := row_cell rb2 3
  simp at y0 y1 y2 y3
  clear ra rb hab hb1 sab ra1 rb1 hbz hbc hg1
  go_upto_region 3 with (go_at_call 28; (with_reducible refine (HB.out _).mono ?_); rintro e w3 ⟨F2, G2, cp2, rfl, hb3⟩)
  have ra3 := (hb3.block _ (lt_of_block ra2)).trans ra2
  have rb3 := (hb3.block _ (lt_of_block rb2)).trans rb2
  have rc3 := (hb3.block _ (lt_of_block rc)).trans rc
  obtain ⟨rd, hbd⟩ := box1 w3 (.cells #[.int .i64 5, .func (.func F2) #[] cp2, .func (.func G2) #[] #[]] 44)
  have ra4 := (hbd.block _ (lt_of_block ra3)).trans ra3
  have rb4 := (hbd.block _ (lt_of_block rb3)).trans rb3
  have rc4 := (hbd.block _ (lt_of_block rc3)).trans rc3
  have hbz := hb2.trans (hb3.mono hb2.size)
  have hb4 := hbz.trans (hbd.mono hbz.size)
  generalize World.alloc w3 _ = w4 at rd hbd ra4 rb4 rc4 hb4 ⊢
  obtain ⟨g2, hg2⟩ : ∃ g, g = w3.heap.size := ⟨_, rfl⟩
  rw [← hg2] at rd ⊢
  clear y0 y1 y2 y3 ra2 rb2 rc hb2 ra3 rb3 rc3 hb3 hbd hbz hg2
  have za := row_cell ra4 1
  have zb := row_cell rb4 1
  have zc := row_cell rc4 0
  have zd := row_cell rd 0
  simp at za zb zc zd
  clear ra4 rb4 rc4 rd
  go_wp2_with (go_at_call 35; (with_reducible refine (HT.out _).mono ?_); rintro e w5 ⟨rfl, hb5⟩)
  go_ret2
  exact ⟨rfl, hb4.trans (hb5.mono hb4.size)⟩
end Go.Proofs.YtlhcejbimlilaaaGreatDoor
/- The program's Compare whole; Equal; a literal of the laws. -/
namespace Go.Proofs.YtlhcejbimlilaaaGreatDoor
open Go.RowKit Go.Tk
structure Tm where
  kd : Int
  tx : ByteArray
  ty : ByteArray
  la : ByteArray
def Tm.val (t : Tm) : Value := .agg #[.int .i64 t.kd, .string t.tx, .string t.ty, .string t.la]
def mtG (o : Option Mt) : Mt := o.getD mtZ
/-- Two texts of one family. -/
def cmpF (f : Int) (x y : List UInt8) : Int × Bool :=
  if f = 2 then agN (nuN x) (nuN y)
  else if f = 1 then (cmB (truP x) (truP y), true)
  else if f = 6 then (cmB ((hexP (gtP x)).getD []) ((hexP (gtP y)).getD []), true)
  else if f = 7 then (cmB (b6R x).1 (b6R y).1, true)
  else if f = 3 then agM (mtG (rdDT x)) (mtG (rdDT y))
  else if f = 4 then agM (mtG (rdDay x)) (mtG (rdDay y))
  else if f = 5 then agM (mtG (rdClk x)) (mtG (rdClk y))
  else (cmB x y, true)
def Tm.ok (a : Tm) : Bool := vdOk a.kd a.ty.data.toList a.tx.data.toList
def Tm.fam (a : Tm) : Int := famT a.ty.data.toList
/-- What Compare answers. -/
def cmpE (a b : Tm) : Int × Bool := if a.ok = true ∧ b.ok = true ∧ a.fam = b.fam then cmpF a.fam a.tx.data.toList b.tx.data.toList else (0, false)
theorem fam_cases (k l : Kd) (h : famK k = famK l) : famK k = 2 ∧ famK l = 2 ∨ k = l ∧ famK k ≠ 2 := by
  cases k <;> cases l <;> simp [famK] at *
theorem vdOk_chk {kd : Int} {t x : List UInt8} (h : vdOk kd t x = true) : chkE t x = 0 := by
  unfold vdOk at h
  simp only [Bool.and_eq_true, decide_eq_true_eq] at h
  exact h.2.2
theorem vdOk_none {kd : Int} {t x : List UInt8} (h : kdOf t = none) : vdOk kd t x = false := by unfold vdOk; rw [h]; rfl
theorem mt_calls {F : Nat} {x : ByteArray} {o : Option Mt} {m : Mt} (h : ∀ w, Calls Tryz.prog F #[.string x] w (MtPost o w)) (hm : o = some m) :
    ∀ w, Calls Tryz.prog F #[.string x] w fun e w' => e = .returned (.tuple #[m.val, .bool true]) ∧ Below w.heap.size w w' := fun w => by
  refine (h w).mono fun e w' h => ?_
  obtain ⟨m', he, hmo, hbw⟩ := h
  obtain rfl := hmo m hm
  rw [hm] at he
  exact ⟨he, hbw⟩
theorem cmp_calls (a b : Tm) (w : World) (ha : a.tx.size ≤ 9223372036854775807) (hb : b.tx.size ≤ 9223372036854775807) :
    Calls Tryz.prog 17 #[a.val, b.val] w fun e w' => e = .returned (.tuple #[.int .i64 (cmpE a b).1, .bool (cmpE a b).2]) ∧ Below w.heap.size w w' := by
  obtain ⟨ka, xa, ta, la⟩ := a
  obtain ⟨kb, xb, tb, lb⟩ := b
  dsimp only at ha hb
  unfold Tm.val
  dsimp only
  have hE : cmpE ⟨ka, xa, ta, la⟩ ⟨kb, xb, tb, lb⟩ = if vdOk ka ta.data.toList xa.data.toList = true ∧ vdOk kb tb.data.toList xb.data.toList = true ∧ famT ta.data.toList = famT tb.data.toList then cmpF (famT ta.data.toList) xa.data.toList xb.data.toList else (0, false) := rfl
  rw [hE]
  clear hE
  cases hka : kdOf ta.data.toList with
  | none =>
    rw [vdOk_none hka, if_neg (by simp)]
    have h1 := fun w => valued_none ka xa ta la w hka
    cases hkb : kdOf tb.data.toList with
    | none => exact cmp_nn ka kb xa ta la xb tb lb w h1 (fun w => valued_none kb xb tb lb w hkb)
    | some l => exact cmp_ny _ _ ka kb xa ta la xb tb lb w h1 (fun w => valued_some kb xb tb lb w hb l hkb)
  | some k =>
    have h1 := fun w => valued_some ka xa ta la w ha k hka
    cases hkb : kdOf tb.data.toList with
    | none =>
      rw [vdOk_none hkb, if_neg (by simp)]
      exact cmp_yn _ _ ka kb xa ta la xb tb lb w h1 (fun w => valued_none kb xb tb lb w hkb)
    | some l =>
      have h2 := fun w => valued_some kb xb tb lb w hb l hkb
      have e1 : famT ta.data.toList = famK k := by unfold famT; rw [hka]
      have e2 : famT tb.data.toList = famK l := by unfold famT; rw [hkb]
      rw [e1, e2]
      cases hoa : vdOk ka ta.data.toList xa.data.toList with
      | false =>
        rw [if_neg (by simp)]
        rw [hoa] at h1
        exact cmp_na _ _ _ ka kb xa ta la xb tb lb w h1 h2
      | true =>
      rw [hoa] at h1
      cases hob : vdOk kb tb.data.toList xb.data.toList with
      | false =>
        rw [if_neg (by simp)]
        rw [hob] at h2
        exact cmp_nb _ _ ka kb xa ta la xb tb lb w h1 h2
      | true =>
      rw [hob] at h2
      by_cases hf : famK k = famK l
      · rw [if_pos ⟨rfl, rfl, hf⟩]
        have ca := chkE_zero (vdOk_chk hoa)
        have cb := chkE_zero (vdOk_chk hob)
        have hsa : xa.size ≤ 65536 := by rw [Lib.size_eq]; exact ca.1
        have hsb : xb.size ≤ 65536 := by rw [Lib.size_eq]; exact cb.1
        have ia := ca.2 k hka
        have ib := cb.2 l hkb
        rcases fam_cases k l hf with ⟨f1, f2⟩ | ⟨rfl, f1⟩
        · rw [f1] at h1 ⊢
          rw [f2] at h2
          exact cmp_2 ka kb xa ta la xb tb lb w (by omega) (by omega) h1 h2
        · cases k with
          | str => exact cmp_0 ka kb xa ta la xb tb lb w h1 h2
          | boo => exact cmp_1 ka kb xa ta la xb tb lb w h1 h2
          | dec => exact absurd rfl f1
          | dbl => exact absurd rfl f1
          | int lo hi => exact absurd rfl f1
          | hex => exact cmp_6 ka kb xa ta la xb tb lb w (by omega) (by omega) h1 h2
          | b64 => exact cmp_7 ka kb xa ta la xb tb lb w (by omega) (by omega) h1 h2
          | dtm =>
            obtain ⟨m, hm⟩ := Option.isSome_iff_exists.1 (show (rdDT xa.data.toList).isSome = true from ia)
            obtain ⟨n, hn⟩ := Option.isSome_iff_exists.1 (show (rdDT xb.data.toList).isSome = true from ib)
            have e : cmpF (famK .dtm) xa.data.toList xb.data.toList = agM m n := by show agM (mtG (rdDT xa.data.toList)) (mtG (rdDT xb.data.toList)) = _; rw [hm, hn]; rfl
            rw [e]
            exact cmp_3 ka kb xa ta la xb tb lb w _ _ (fun w => twoMoments_calls 36 (fun _ _ => by kernel_rfl) xa xb m n w (rdDT_bd hm).b (rdDT_bd hn).b (mt_calls (fun w => readDateTime_calls xa w (by omega)) hm) (mt_calls (fun w => readDateTime_calls xb w (by omega)) hn)) h1 h2
          | dat =>
            obtain ⟨m, hm⟩ := Option.isSome_iff_exists.1 (show (rdDay xa.data.toList).isSome = true from ia)
            obtain ⟨n, hn⟩ := Option.isSome_iff_exists.1 (show (rdDay xb.data.toList).isSome = true from ib)
            have e : cmpF (famK .dat) xa.data.toList xb.data.toList = agM m n := by show agM (mtG (rdDay xa.data.toList)) (mtG (rdDay xb.data.toList)) = _; rw [hm, hn]; rfl
            rw [e]
            exact cmp_4 ka kb xa ta la xb tb lb w _ _ (fun w => twoMoments_calls 37 (fun _ _ => by kernel_rfl) xa xb m n w (rdDay_bd hm).b (rdDay_bd hn).b (mt_calls (fun w => readDay_calls xa w (by omega)) hm) (mt_calls (fun w => readDay_calls xb w (by omega)) hn)) h1 h2
          | tim =>
            obtain ⟨m, hm⟩ := Option.isSome_iff_exists.1 (show (rdClk xa.data.toList).isSome = true from ia)
            obtain ⟨n, hn⟩ := Option.isSome_iff_exists.1 (show (rdClk xb.data.toList).isSome = true from ib)
            have e : cmpF (famK .tim) xa.data.toList xb.data.toList = agM m n := by show agM (mtG (rdClk xa.data.toList)) (mtG (rdClk xb.data.toList)) = _; rw [hm, hn]; rfl
            rw [e]
            exact cmp_5 ka kb xa ta la xb tb lb w _ _ (fun w => twoMoments_calls 38 (fun _ _ => by kernel_rfl) xa xb m n w (rdClk_bd hm).b (rdClk_bd hn).b (mt_calls (fun w => readClock_calls xa w (by omega)) hm) (mt_calls (fun w => readClock_calls xb w (by omega)) hn)) h1 h2
      · rw [if_neg (fun h => hf h.2.2)]
        exact cmp_nf _ _ ka kb xa ta la xb tb lb w hf h1 h2
end Go.Proofs.YtlhcejbimlilaaaGreatDoor
