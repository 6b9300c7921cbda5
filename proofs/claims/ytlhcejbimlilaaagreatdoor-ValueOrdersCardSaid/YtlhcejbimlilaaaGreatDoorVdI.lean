/- VgA VdI, laid as one. -/
import Derived.Test.YtlhcejbimlilaaaGreatDoorVaX
import Derived.Test.YtlhcejbimlilaaaGreatDoorVdT
import Derived.Test.YtlhcejbimlilaaaGreatDoorVbM
import Derived.Test.YtlhcejbimlilaaaGreatDoorVcD
set_option linter.unusedVariables false
set_option linter.unusedSimpArgs false
/- The document's day, seconds, apart, moments (written by gen_vga.py). -/
namespace Go.Tk
open Go Go.RowKit
theorem ret_i {k : IntKind} {a b : Int} (h : a = b) : Ending.returned (.int k a) = .returned (.int k b) := by rw [h]
/-- The day's number in the document, from the first of March of the year 0. -/
theorem day_gt {y m d : Int} (h3 : 3 ≤ m) (h12 : m ≤ 12) : 146097 * (y / 400) + 365 * (y - 400 * (y / 400)) + (y - 400 * (y / 400)) / 4 - (y - 400 * (y / 400)) / 100 + (153 * (m - 3) + 2) / 5 + d - 1 = dyP y m d - 60 := by
  have key : 146097 * (y / 400) + 365 * (y - 400 * (y / 400)) + (y - 400 * (y / 400)) / 4 - (y - 400 * (y / 400)) / 100 = 365 * y + (y - 1) / 4 - (y - 1) / 100 + (y - 1) / 400 + lpN y := by rw [lpN_eq]; omega
  have hl := lpN_bd y
  have hm : m = 3 ∨ m = 4 ∨ m = 5 ∨ m = 6 ∨ m = 7 ∨ m = 8 ∨ m = 9 ∨ m = 10 ∨ m = 11 ∨ m = 12 := by omega
  have e2 : mdP y 2 = 28 + lpN y := by unfold mdP lpN; rw [if_pos rfl]; split <;> rfl
  have c3 : cmP y 2 = 59 + lpN y := by
    have : cmP y 2 = mdP y 1 + mdP y 2 := by simp [cmP]
    rw [this, e2]; simp [mdP]; omega
  have st : ∀ k : Nat, 2 ≤ k → cmP y (k + 1) = cmP y k + (if (k + 1 : Int) = 4 ∨ (k + 1 : Int) = 6 ∨ (k + 1 : Int) = 9 ∨ (k + 1 : Int) = 11 then 30 else 31) := fun k hk => by
    show cmP y k + mdP y (k + 1) = _
    unfold mdP
    rw [if_neg (by omega)]
  have s3 := st 2 (by omega)
  have s4 := st 3 (by omega)
  have s5 := st 4 (by omega)
  have s6 := st 5 (by omega)
  have s7 := st 6 (by omega)
  have s8 := st 7 (by omega)
  have s9 := st 8 (by omega)
  have s10 := st 9 (by omega)
  have s11 := st 10 (by omega)
  simp at s3 s4 s5 s6 s7 s8 s9 s10 s11
  unfold dyP ydP
  rcases hm with rfl | rfl | rfl | rfl | rfl | rfl | rfl | rfl | rfl | rfl
  all_goals
    simp only [Int.reduceSub, Int.reduceToNat]
    omega
theorem day_lt {y m d : Int} (h1 : 1 ≤ m) (h3 : m < 3) : 146097 * ((y - 1) / 400) + 365 * ((y - 1) - 400 * ((y - 1) / 400)) + ((y - 1) - 400 * ((y - 1) / 400)) / 4 - ((y - 1) - 400 * ((y - 1) / 400)) / 100 + (153 * (m + 12 - 3) + 2) / 5 + d - 1 = dyP y m d - 60 := by
  have c1 : cmP y 1 = 31 := by simp [cmP, mdP]
  have c0 : cmP y 0 = 0 := rfl
  unfold dyP ydP
  have hm : m = 1 ∨ m = 2 := by omega
  rcases hm with rfl | rfl
  · simp only [Int.reduceSub, Int.reduceToNat, c0]
    omega
  · simp only [Int.reduceSub, Int.reduceToNat, c1]
    omega
theorem dyP_bd8 {y m d : Int} (y0 : -2000000000 ≤ y) (y1 : y ≤ 2000000000) (m0 : 0 ≤ m) (m1 : m ≤ 12) (d0 : 0 ≤ d) (d1 : d ≤ 31) : -800000000000 ≤ dyP y m d ∧ dyP y m d ≤ 800000000000 := by
  have := cmP_bd y (m - 1).toNat
  unfold dyP ydP
  omega
end Go.Tk
namespace Go.Proofs.YtlhcejbimlilaaaGreatDoor
open Go.RowKit Go.Tk
set_option maxHeartbeats 2000000 in
theorem day_ln (y m d q R A B C z : Int) (w : World) (y0 : -2000000000 ≤ y) (y1 : y ≤ 2000000000) (m0 : 1 ≤ m) (m1 : m ≤ 12) (d0 : 0 ≤ d) (d1 : d ≤ 31) (hm : m < 3) (hq : (y - 1).tdiv 400 = q) (hz : (y - 1).tmod 400 = z) (hn : z < 0) (q0 : -6000000 ≤ q) (q1 : q ≤ 6000000) (hR : (y - 1) - 400 * (q - 1) = R) (r0 : 0 ≤ R) (r1 : R < 400) (hA : R.tdiv 4 = A) (hB : R.tdiv 100 = B) (hC : (153 * ((m + 12) - 3) + 2).tdiv 5 = C) (a0 : 0 ≤ A) (a1 : A ≤ 100) (b0 : 0 ≤ B) (b1 : B ≤ 4) (c0 : 0 ≤ C) (c1 : C ≤ 400) :
    Calls Tryz.prog 160 #[.int .i64 y, .int .i64 m, .int .i64 d] w fun e w' => e = .returned (.int .i64 (146097 * (q - 1) + 365 * R + A - B + C + d - 1)) ∧ w = w' := by
  go_enter Tryz.func160, Tryz.ntmps160
  go_wp2_with fail
  go_ret
  exact ⟨rfl, rfl⟩
set_option maxHeartbeats 2000000 in
theorem day_lp (y m d q R A B C z : Int) (w : World) (y0 : -2000000000 ≤ y) (y1 : y ≤ 2000000000) (m0 : 1 ≤ m) (m1 : m ≤ 12) (d0 : 0 ≤ d) (d1 : d ≤ 31) (hm : m < 3) (hq : (y - 1).tdiv 400 = q) (hz : (y - 1).tmod 400 = z) (hn : ¬ z < 0) (q0 : -6000000 ≤ q) (q1 : q ≤ 6000000) (hR : (y - 1) - 400 * q = R) (r0 : 0 ≤ R) (r1 : R < 400) (hA : R.tdiv 4 = A) (hB : R.tdiv 100 = B) (hC : (153 * ((m + 12) - 3) + 2).tdiv 5 = C) (a0 : 0 ≤ A) (a1 : A ≤ 100) (b0 : 0 ≤ B) (b1 : B ≤ 4) (c0 : 0 ≤ C) (c1 : C ≤ 400) :
    Calls Tryz.prog 160 #[.int .i64 y, .int .i64 m, .int .i64 d] w fun e w' => e = .returned (.int .i64 (146097 * q + 365 * R + A - B + C + d - 1)) ∧ w = w' := by
  go_enter Tryz.func160, Tryz.ntmps160
  go_wp2_with fail
  go_ret
  exact ⟨rfl, rfl⟩
set_option maxHeartbeats 2000000 in
theorem day_gn (y m d q R A B C z : Int) (w : World) (y0 : -2000000000 ≤ y) (y1 : y ≤ 2000000000) (m0 : 1 ≤ m) (m1 : m ≤ 12) (d0 : 0 ≤ d) (d1 : d ≤ 31) (hm : ¬ m < 3) (hq : y.tdiv 400 = q) (hz : y.tmod 400 = z) (hn : z < 0) (q0 : -6000000 ≤ q) (q1 : q ≤ 6000000) (hR : y - 400 * (q - 1) = R) (r0 : 0 ≤ R) (r1 : R < 400) (hA : R.tdiv 4 = A) (hB : R.tdiv 100 = B) (hC : (153 * (m - 3) + 2).tdiv 5 = C) (a0 : 0 ≤ A) (a1 : A ≤ 100) (b0 : 0 ≤ B) (b1 : B ≤ 4) (c0 : 0 ≤ C) (c1 : C ≤ 400) :
    Calls Tryz.prog 160 #[.int .i64 y, .int .i64 m, .int .i64 d] w fun e w' => e = .returned (.int .i64 (146097 * (q - 1) + 365 * R + A - B + C + d - 1)) ∧ w = w' := by
  go_enter Tryz.func160, Tryz.ntmps160
  go_wp2_with fail
  go_ret
  exact ⟨rfl, rfl⟩
set_option maxHeartbeats 2000000 in
theorem day_gp (y m d q R A B C z : Int) (w : World) (y0 : -2000000000 ≤ y) (y1 : y ≤ 2000000000) (m0 : 1 ≤ m) (m1 : m ≤ 12) (d0 : 0 ≤ d) (d1 : d ≤ 31) (hm : ¬ m < 3) (hq : y.tdiv 400 = q) (hz : y.tmod 400 = z) (hn : ¬ z < 0) (q0 : -6000000 ≤ q) (q1 : q ≤ 6000000) (hR : y - 400 * q = R) (r0 : 0 ≤ R) (r1 : R < 400) (hA : R.tdiv 4 = A) (hB : R.tdiv 100 = B) (hC : (153 * (m - 3) + 2).tdiv 5 = C) (a0 : 0 ≤ A) (a1 : A ≤ 100) (b0 : 0 ≤ B) (b1 : B ≤ 4) (c0 : 0 ≤ C) (c1 : C ≤ 400) :
    Calls Tryz.prog 160 #[.int .i64 y, .int .i64 m, .int .i64 d] w fun e w' => e = .returned (.int .i64 (146097 * q + 365 * R + A - B + C + d - 1)) ∧ w = w' := by
  go_enter Tryz.func160, Tryz.ntmps160
  go_wp2_with fail
  go_ret
  exact ⟨rfl, rfl⟩
theorem day_calls (y m d : Int) (w : World) (y0 : -2000000000 ≤ y) (y1 : y ≤ 2000000000) (m0 : 1 ≤ m) (m1 : m ≤ 12) (d0 : 0 ≤ d) (d1 : d ≤ 31) :
    Calls Tryz.prog 160 #[.int .i64 y, .int .i64 m, .int .i64 d] w fun e w' => e = .returned (.int .i64 (dyP y m d - 60)) ∧ w = w' := by
  have td : ∀ (a b : Int), 0 ≤ a → a.tdiv b = a / b := fun a b h => Int.tdiv_eq_ediv_of_nonneg h
  by_cases hm : m < 3
  · have hf := tfloor (y - 1) 400 (by omega)
    rw [← day_lt m0 hm]
    by_cases hn : (y - 1).tmod 400 < 0
    · rw [if_pos hn] at hf
      obtain ⟨E, hE⟩ : ∃ E, E = (y - 1) / 400 := ⟨_, rfl⟩
      rw [← hE] at hf ⊢
      have hq : (y - 1).tdiv 400 - 1 = E := hf.symm
      have := day_ln y m d ((y - 1).tdiv 400) (y - 1 - 400 * E) ((y - 1 - 400 * E) / 4) ((y - 1 - 400 * E) / 100) ((153 * (m + 12 - 3) + 2) / 5) ((y - 1).tmod 400) w y0 y1 m0 m1 d0 d1 hm rfl rfl hn (by omega) (by omega) (by rw [hq]) (by omega) (by omega) (td _ _ (by omega)) (td _ _ (by omega)) (td _ _ (by omega)) (by omega) (by omega) (by omega) (by omega) (by omega) (by omega)
      rw [hq] at this
      exact this
    · rw [if_neg hn] at hf
      obtain ⟨E, hE⟩ : ∃ E, E = (y - 1) / 400 := ⟨_, rfl⟩
      rw [← hE] at hf ⊢
      have hq : (y - 1).tdiv 400 = E := hf.symm
      exact day_lp y m d E (y - 1 - 400 * E) ((y - 1 - 400 * E) / 4) ((y - 1 - 400 * E) / 100) ((153 * (m + 12 - 3) + 2) / 5) ((y - 1).tmod 400) w y0 y1 m0 m1 d0 d1 hm hq rfl hn (by omega) (by omega) rfl (by omega) (by omega) (td _ _ (by omega)) (td _ _ (by omega)) (td _ _ (by omega)) (by omega) (by omega) (by omega) (by omega) (by omega) (by omega)
  · have hf := tfloor y 400 (by omega)
    rw [← day_gt (by omega) m1]
    by_cases hn : y.tmod 400 < 0
    · rw [if_pos hn] at hf
      obtain ⟨E, hE⟩ : ∃ E, E = y / 400 := ⟨_, rfl⟩
      rw [← hE] at hf ⊢
      have hq : y.tdiv 400 - 1 = E := hf.symm
      have := day_gn y m d (y.tdiv 400) (y - 400 * E) ((y - 400 * E) / 4) ((y - 400 * E) / 100) ((153 * (m - 3) + 2) / 5) (y.tmod 400) w y0 y1 m0 m1 d0 d1 hm rfl rfl hn (by omega) (by omega) (by rw [hq]) (by omega) (by omega) (td _ _ (by omega)) (td _ _ (by omega)) (td _ _ (by omega)) (by omega) (by omega) (by omega) (by omega) (by omega) (by omega)
      rw [hq] at this
      exact this
    · rw [if_neg hn] at hf
      obtain ⟨E, hE⟩ : ∃ E, E = y / 400 := ⟨_, rfl⟩
      rw [← hE] at hf ⊢
      have hq : y.tdiv 400 = E := hf.symm
      exact day_gp y m d E (y - 400 * E) ((y - 400 * E) / 4) ((y - 400 * E) / 100) ((153 * (m - 3) + 2) / 5) (y.tmod 400) w y0 y1 m0 m1 d0 d1 hm hq rfl hn (by omega) (by omega) rfl (by omega) (by omega) (td _ _ (by omega)) (td _ _ (by omega)) (td _ _ (by omega)) (by omega) (by omega) (by omega) (by omega) (by omega) (by omega)
/-- A moment whose numbers lie within their bounds. -/
structure Mo8.In (m : Mo8) : Prop where
  y0 : -2000000000 ≤ m.y
  y1 : m.y ≤ 2000000000
  mo0 : 1 ≤ m.mo
  mo1 : m.mo ≤ 12
  d0 : 0 ≤ m.d
  d1 : m.d ≤ 31
  h0 : 0 ≤ m.h
  h1 : m.h ≤ 24
  mi0 : 0 ≤ m.mi
  mi1 : m.mi ≤ 59
  s0 : 0 ≤ m.s
  s1 : m.s ≤ 59
  o0 : -840 ≤ m.o
  o1 : m.o ≤ 840
/-- Its seconds, those of one zone. -/
def scR (m : Mo8) (lk : Int) : Int := 86400 * (dyP m.y m.mo m.d - 60) + 3600 * (if lk = 8 ∧ m.h = 24 then 0 else m.h) + 60 * m.mi + m.s - 60 * m.o
theorem scR_bd {m : Mo8} (h : m.In) (lk : Int) : -90000000000000000 ≤ scR m lk ∧ scR m lk ≤ 90000000000000000 := by
  have := dyP_bd8 h.y0 h.y1 (by have := h.mo0; omega) h.mo1 h.d0 h.d1
  obtain ⟨_, _, _, _, _, _, h0, h1, mi0, mi1, s0, s1, o0, o1⟩ := h
  unfold scR
  split <;> omega
set_option maxRecDepth 100000 in
set_option maxHeartbeats 4000000 in
theorem sec_n (y mo d h mi s : Int) (f : ByteArray) (z : Bool) (o : Int) (lk D : Int) (w : World) (hd : ∀ w, Calls Tryz.prog 160 #[.int .i64 y, .int .i64 mo, .int .i64 d] w fun e w' => e = .returned (.int .i64 D) ∧ w = w') (D0 : -900000000000 ≤ D) (D1 : D ≤ 900000000000) (h0 : 0 ≤ h) (h1 : h ≤ 24) (mi0 : 0 ≤ mi) (mi1 : mi ≤ 59) (s0 : 0 ≤ s) (s1 : s ≤ 59) (o0 : -840 ≤ o) (o1 : o ≤ 840) (hl : lk ≠ 8) :
    Calls Tryz.prog 132 #[.agg #[.int .i64 y, .int .i64 mo, .int .i64 d, .int .i64 h, .int .i64 mi, .int .i64 s, .string f, .bool z, .int .i64 o], .int .i64 lk] w fun e w' => e = .returned (.int .i64 (86400 * D + 3600 * h + 60 * mi + s - 60 * o)) ∧ Below w.heap.size w w' := by
  have HD := Lib.hid hd
  clear hd
  have hlb : (lk == 8) = false := beq_false_of_ne hl
  clear hl
  go_enter Tryz.func132, Tryz.ntmps132
  go_upto_region 1 with fail
  obtain ⟨r1, hb⟩ := box1 w (.cells #[.int .i64 y, .int .i64 mo, .int .i64 d, .int .i64 h, .int .i64 mi, .int .i64 s, .string f, .bool z, .int .i64 o] 69)
  generalize World.alloc w _ = w2 at r1 hb ⊢
  have c0 := row_cell r1 0
  have c1 := row_cell r1 1
  have c2 := row_cell r1 2
  have c3 := row_cell r1 3
  have c4 := row_cell r1 4
  have c5 := row_cell r1 5
  have c8 := row_cell r1 8
  simp at c0 c1 c2 c3 c4 c5 c8
  have x0 := Lw.cell c0
  have x1 := Lw.cell c1
  have x2 := Lw.cell c2
  have x3 := Lw.cell c3
  have x4 := Lw.cell c4
  have x5 := Lw.cell c5
  have x8 := Lw.cell c8
  have HB := Lib.hid hb
  clear hb r1
  go_upto_region 4 with fail
  clear c0 c1 c2 c3 c4 c5 c8
  refine wp_region_lw (by kernel_rfl) (by kernel_rfl) ?_
  repeat (go_big_quiet_step (first | exact rfl | (go_at_call 160; with_reducible exact lw_same (HD.out _))))
  refine wpQuiet_nil ?_
  rintro ⟨w3, hb3⟩
  dsimp only
  go_wp2_with fail
  go_ret
  exact ⟨ret_i (by omega), HB.out.trans (hb3.mono HB.out.size)⟩
set_option maxRecDepth 100000 in
set_option maxHeartbeats 4000000 in
theorem sec_8 (y mo d h mi s : Int) (f : ByteArray) (z : Bool) (o : Int) (lk D : Int) (w : World) (hd : ∀ w, Calls Tryz.prog 160 #[.int .i64 y, .int .i64 mo, .int .i64 d] w fun e w' => e = .returned (.int .i64 D) ∧ w = w') (D0 : -900000000000 ≤ D) (D1 : D ≤ 900000000000) (h0 : 0 ≤ h) (h1 : h ≤ 24) (mi0 : 0 ≤ mi) (mi1 : mi ≤ 59) (s0 : 0 ≤ s) (s1 : s ≤ 59) (o0 : -840 ≤ o) (o1 : o ≤ 840) (hl : lk = 8) (h24 : h ≠ 24) :
    Calls Tryz.prog 132 #[.agg #[.int .i64 y, .int .i64 mo, .int .i64 d, .int .i64 h, .int .i64 mi, .int .i64 s, .string f, .bool z, .int .i64 o], .int .i64 lk] w fun e w' => e = .returned (.int .i64 (86400 * D + 3600 * h + 60 * mi + s - 60 * o)) ∧ Below w.heap.size w w' := by
  have HD := Lib.hid hd
  clear hd
  subst hl
  have hlb : (h == 24) = false := beq_false_of_ne h24
  clear h24
  go_enter Tryz.func132, Tryz.ntmps132
  go_upto_region 1 with fail
  obtain ⟨r1, hb⟩ := box1 w (.cells #[.int .i64 y, .int .i64 mo, .int .i64 d, .int .i64 h, .int .i64 mi, .int .i64 s, .string f, .bool z, .int .i64 o] 69)
  generalize World.alloc w _ = w2 at r1 hb ⊢
  have c0 := row_cell r1 0
  have c1 := row_cell r1 1
  have c2 := row_cell r1 2
  have c3 := row_cell r1 3
  have c4 := row_cell r1 4
  have c5 := row_cell r1 5
  have c8 := row_cell r1 8
  simp at c0 c1 c2 c3 c4 c5 c8
  have x0 := Lw.cell c0
  have x1 := Lw.cell c1
  have x2 := Lw.cell c2
  have x3 := Lw.cell c3
  have x4 := Lw.cell c4
  have x5 := Lw.cell c5
  have x8 := Lw.cell c8
  have HB := Lib.hid hb
  clear hb r1
  go_upto_region 4 with fail
  clear c0 c1 c2 c3 c4 c5 c8
  refine wp_region_lw (by kernel_rfl) (by kernel_rfl) ?_
  repeat (go_big_quiet_step (first | exact rfl | (go_at_call 160; with_reducible exact lw_same (HD.out _))))
  refine wpQuiet_nil ?_
  rintro ⟨w3, hb3⟩
  dsimp only
  go_wp2_with fail
  go_ret
  exact ⟨ret_i (by omega), HB.out.trans (hb3.mono HB.out.size)⟩
set_option maxRecDepth 100000 in
set_option maxHeartbeats 4000000 in
theorem sec_24 (y mo d h mi s : Int) (f : ByteArray) (z : Bool) (o : Int) (lk D : Int) (w : World) (hd : ∀ w, Calls Tryz.prog 160 #[.int .i64 y, .int .i64 mo, .int .i64 d] w fun e w' => e = .returned (.int .i64 D) ∧ w = w') (D0 : -900000000000 ≤ D) (D1 : D ≤ 900000000000) (h0 : 0 ≤ h) (h1 : h ≤ 24) (mi0 : 0 ≤ mi) (mi1 : mi ≤ 59) (s0 : 0 ≤ s) (s1 : s ≤ 59) (o0 : -840 ≤ o) (o1 : o ≤ 840) (hl : lk = 8) (h24 : h = 24) :
    Calls Tryz.prog 132 #[.agg #[.int .i64 y, .int .i64 mo, .int .i64 d, .int .i64 h, .int .i64 mi, .int .i64 s, .string f, .bool z, .int .i64 o], .int .i64 lk] w fun e w' => e = .returned (.int .i64 (86400 * D + 3600 * 0 + 60 * mi + s - 60 * o)) ∧ Below w.heap.size w w' := by
  have HD := Lib.hid hd
  clear hd
  subst hl
  subst h24
  go_enter Tryz.func132, Tryz.ntmps132
  go_upto_region 1 with fail
  obtain ⟨r1, hb⟩ := box1 w (.cells #[.int .i64 y, .int .i64 mo, .int .i64 d, .int .i64 24, .int .i64 mi, .int .i64 s, .string f, .bool z, .int .i64 o] 69)
  generalize World.alloc w _ = w2 at r1 hb ⊢
  have c0 := row_cell r1 0
  have c1 := row_cell r1 1
  have c2 := row_cell r1 2
  have c3 := row_cell r1 3
  have c4 := row_cell r1 4
  have c5 := row_cell r1 5
  have c8 := row_cell r1 8
  simp at c0 c1 c2 c3 c4 c5 c8
  have x0 := Lw.cell c0
  have x1 := Lw.cell c1
  have x2 := Lw.cell c2
  have x3 := Lw.cell c3
  have x4 := Lw.cell c4
  have x5 := Lw.cell c5
  have x8 := Lw.cell c8
  have HB := Lib.hid hb
  clear hb r1
  go_upto_region 4 with fail
  clear c0 c1 c2 c3 c4 c5 c8
  refine wp_region_lw (by kernel_rfl) (by kernel_rfl) ?_
  repeat (go_big_quiet_step (first | exact rfl | (go_at_call 160; with_reducible exact lw_same (HD.out _))))
  refine wpQuiet_nil ?_
  rintro ⟨w3, hb3⟩
  dsimp only
  go_wp2_with fail
  go_ret
  exact ⟨ret_i (by omega), HB.out.trans (hb3.mono HB.out.size)⟩
theorem seconds_calls (m : Mo8) (lk : Int) (w : World) (h : m.In) :
    Calls Tryz.prog 132 #[.agg m.cells, .int .i64 lk] w fun e w' => e = .returned (.int .i64 (scR m lk)) ∧ Below w.heap.size w w' := by
  have hd := fun w => day_calls m.y m.mo m.d w h.y0 h.y1 h.mo0 h.mo1 h.d0 h.d1
  have hb := dyP_bd8 h.y0 h.y1 (by have := h.mo0; omega) h.mo1 h.d0 h.d1
  by_cases hl : lk = 8
  · by_cases h24 : m.h = 24
    · have e : scR m lk = 86400 * (dyP m.y m.mo m.d - 60) + 3600 * 0 + 60 * m.mi + m.s - 60 * m.o := by unfold scR; rw [if_pos ⟨hl, h24⟩]
      rw [e]
      exact sec_24 _ _ _ _ _ _ _ _ _ _ _ w hd (by omega) (by omega) h.h0 h.h1 h.mi0 h.mi1 h.s0 h.s1 h.o0 h.o1 hl h24
    · have e : scR m lk = 86400 * (dyP m.y m.mo m.d - 60) + 3600 * m.h + 60 * m.mi + m.s - 60 * m.o := by unfold scR; rw [if_neg (fun h => h24 h.2)]
      rw [e]
      exact sec_8 _ _ _ _ _ _ _ _ _ _ _ w hd (by omega) (by omega) h.h0 h.h1 h.mi0 h.mi1 h.s0 h.s1 h.o0 h.o1 hl h24
  · have e : scR m lk = 86400 * (dyP m.y m.mo m.d - 60) + 3600 * m.h + 60 * m.mi + m.s - 60 * m.o := by unfold scR; rw [if_neg (fun h => hl h.1)]
    rw [e]
    exact sec_n _ _ _ _ _ _ _ _ _ _ _ w hd (by omega) (by omega) h.h0 h.h1 h.mi0 h.mi1 h.s0 h.s1 h.o0 h.o1 hl
/-- Two moments in the document, the second one's clock moved. -/
def apE (a b : Mo8) (lk by_ : Int) : Int := if cmZ (scR a lk) (scR b lk + 60 * by_) = 0 then cmB a.f.data.toList b.f.data.toList else cmZ (scR a lk) (scR b lk + 60 * by_)
set_option maxRecDepth 100000 in
set_option maxHeartbeats 4000000 in
theorem apart_w (ay : Int) (amo : Int) (ad : Int) (ah : Int) (ami : Int) (as_ : Int) (af : ByteArray) (az : Bool) (ao : Int) (by_ : Int) (bmo : Int) (bd : Int) (bh : Int) (bmi : Int) (bs : Int) (bf : ByteArray) (bz : Bool) (bo : Int) (lk k S1 S2 c x : Int) (w : World) (h1 : ∀ w, Calls Tryz.prog 132 #[.agg #[.int .i64 ay, .int .i64 amo, .int .i64 ad, .int .i64 ah, .int .i64 ami, .int .i64 as_, .string af, .bool az, .int .i64 ao], .int .i64 lk] w fun e w' => e = .returned (.int .i64 S1) ∧ Below w.heap.size w w') (h2 : ∀ w, Calls Tryz.prog 132 #[.agg #[.int .i64 by_, .int .i64 bmo, .int .i64 bd, .int .i64 bh, .int .i64 bmi, .int .i64 bs, .string bf, .bool bz, .int .i64 bo], .int .i64 lk] w fun e w' => e = .returned (.int .i64 S2) ∧ Below w.heap.size w w')
    (h3 : ∀ w, Calls Tryz.prog 89 #[.int .i64 S1, .int .i64 (S2 + 60 * k)] w fun e w' => e = .returned (.int .i64 c) ∧ w = w') (h4 : ∀ w, Calls Tryz.prog 41 #[.string af, .string bf] w fun e w' => e = .returned (.int .i64 x) ∧ w = w') (s0 : -90000000000000000 ≤ S2) (s1 : S2 ≤ 90000000000000000) (k0 : -840 ≤ k) (k1 : k ≤ 840) :
    Calls Tryz.prog 93 #[.agg #[.int .i64 ay, .int .i64 amo, .int .i64 ad, .int .i64 ah, .int .i64 ami, .int .i64 as_, .string af, .bool az, .int .i64 ao], .agg #[.int .i64 by_, .int .i64 bmo, .int .i64 bd, .int .i64 bh, .int .i64 bmi, .int .i64 bs, .string bf, .bool bz, .int .i64 bo], .int .i64 lk, .int .i64 k] w fun e w' => e = .returned (.int .i64 (if c = 0 then x else c)) ∧ Below w.heap.size w w' := by
  have H1 := Lib.hid h1
  have H2 := Lib.hid h2
  have H3 := Lib.hid h3
  have H4 := Lib.hid h4
  clear h1 h2 h3 h4
  by_cases hc : c = 0
  · rw [if_pos hc]
    subst hc
    go_enter Tryz.func93, Tryz.ntmps93
    go_upto_region 1 with fail
    obtain ⟨r1, r2, hb⟩ := box2 w (.cells #[.int .i64 ay, .int .i64 amo, .int .i64 ad, .int .i64 ah, .int .i64 ami, .int .i64 as_, .string af, .bool az, .int .i64 ao] 69) (.cells #[.int .i64 by_, .int .i64 bmo, .int .i64 bd, .int .i64 bh, .int .i64 bmi, .int .i64 bs, .string bf, .bool bz, .int .i64 bo] 69)
    generalize World.alloc (World.alloc w _) _ = w2 at r1 r2 hb ⊢
    have q1 := Lw.row r1
    have q2 := Lw.row r2
    have x0 := fun x => (row_cell (q1 x) 0)
    have y0 := fun x => (row_cell (q2 x) 0)
    have x1 := fun x => (row_cell (q1 x) 1)
    have y1 := fun x => (row_cell (q2 x) 1)
    have x2 := fun x => (row_cell (q1 x) 2)
    have y2 := fun x => (row_cell (q2 x) 2)
    have x3 := fun x => (row_cell (q1 x) 3)
    have y3 := fun x => (row_cell (q2 x) 3)
    have x4 := fun x => (row_cell (q1 x) 4)
    have y4 := fun x => (row_cell (q2 x) 4)
    have x5 := fun x => (row_cell (q1 x) 5)
    have y5 := fun x => (row_cell (q2 x) 5)
    have x6 := fun x => (row_cell (q1 x) 6)
    have y6 := fun x => (row_cell (q2 x) 6)
    have x7 := fun x => (row_cell (q1 x) 7)
    have y7 := fun x => (row_cell (q2 x) 7)
    have x8 := fun x => (row_cell (q1 x) 8)
    have y8 := fun x => (row_cell (q2 x) 8)
    simp at x0 y0 x1 y1 x2 y2 x3 y3 x4 y4 x5 y5 x6 y6 x7 y7 x8 y8
    have HB := Lib.hid hb
    clear q1 q2 r1 r2 hb
    refine wp_region_lw (by kernel_rfl) (by kernel_rfl) ?_
    repeat (go_big_quiet_step (first | exact rfl | (go_at_call 132; with_reducible exact lw_call (H1.out _)) | (go_at_call 132; with_reducible exact lw_call (H2.out _)) | (go_at_call 89; with_reducible exact lw_same (H3.out _))))
    refine wpQuiet_nil ?_
    rintro ⟨w3, hb3⟩
    dsimp only
    have u6 := x6 ⟨w3, hb3⟩
    have v6 := y6 ⟨w3, hb3⟩
    dsimp only at u6 v6
    clear x0 y0 x1 y1 x2 y2 x3 y3 x4 y4 x5 y5 x6 y6 x7 y7 x8 y8
    go_wp2_with (go_at_call 41; (with_reducible refine (H4.out _).mono ?_); rintro e w' ⟨rfl, rfl⟩)
    go_ret
    exact ⟨rfl, HB.out.trans (hb3.mono HB.out.size)⟩
  · rw [if_neg hc]
    have hcb : (c == 0) = false := beq_false_of_ne hc
    clear hc
    go_enter Tryz.func93, Tryz.ntmps93
    go_upto_region 1 with fail
    obtain ⟨r1, r2, hb⟩ := box2 w (.cells #[.int .i64 ay, .int .i64 amo, .int .i64 ad, .int .i64 ah, .int .i64 ami, .int .i64 as_, .string af, .bool az, .int .i64 ao] 69) (.cells #[.int .i64 by_, .int .i64 bmo, .int .i64 bd, .int .i64 bh, .int .i64 bmi, .int .i64 bs, .string bf, .bool bz, .int .i64 bo] 69)
    generalize World.alloc (World.alloc w _) _ = w2 at r1 r2 hb ⊢
    have q1 := Lw.row r1
    have q2 := Lw.row r2
    have x0 := fun x => (row_cell (q1 x) 0)
    have y0 := fun x => (row_cell (q2 x) 0)
    have x1 := fun x => (row_cell (q1 x) 1)
    have y1 := fun x => (row_cell (q2 x) 1)
    have x2 := fun x => (row_cell (q1 x) 2)
    have y2 := fun x => (row_cell (q2 x) 2)
    have x3 := fun x => (row_cell (q1 x) 3)
    have y3 := fun x => (row_cell (q2 x) 3)
    have x4 := fun x => (row_cell (q1 x) 4)
    have y4 := fun x => (row_cell (q2 x) 4)
    have x5 := fun x => (row_cell (q1 x) 5)
    have y5 := fun x => (row_cell (q2 x) 5)
    have x6 := fun x => (row_cell (q1 x) 6)
    have y6 := fun x => (row_cell (q2 x) 6)
    have x7 := fun x => (row_cell (q1 x) 7)
    have y7 := fun x => (row_cell (q2 x) 7)
    have x8 := fun x => (row_cell (q1 x) 8)
    have y8 := fun x => (row_cell (q2 x) 8)
    simp at x0 y0 x1 y1 x2 y2 x3 y3 x4 y4 x5 y5 x6 y6 x7 y7 x8 y8
    have HB := Lib.hid hb
    clear q1 q2 r1 r2 hb
    refine wp_region_lw (by kernel_rfl) (by kernel_rfl) ?_
    repeat (go_big_quiet_step (first | exact rfl | (go_at_call 132; with_reducible exact lw_call (H1.out _)) | (go_at_call 132; with_reducible exact lw_call (H2.out _)) | (go_at_call 89; with_reducible exact lw_same (H3.out _))))
    refine wpQuiet_nil ?_
    rintro ⟨w3, hb3⟩
    dsimp only
    clear x0 y0 x1 y1 x2 y2 x3 y3 x4 y4 x5 y5 x6 y6 x7 y7 x8 y8
    go_wp2_with (go_at_call 41; (with_reducible refine (H4.out _).mono ?_); rintro e w' ⟨rfl, rfl⟩)
    go_ret
    exact ⟨rfl, HB.out.trans (hb3.mono HB.out.size)⟩
theorem apart_calls (a b : Mo8) (lk k : Int) (w : World) (ha : a.In) (hb : b.In) (k0 : -840 ≤ k) (k1 : k ≤ 840) :
    Calls Tryz.prog 93 #[.agg a.cells, .agg b.cells, .int .i64 lk, .int .i64 k] w fun e w' => e = .returned (.int .i64 (apE a b lk k)) ∧ Below w.heap.size w w' := by
  have s := scR_bd hb lk
  exact apart_w _ _ _ _ _ _ _ _ _ _ _ _ _ _ _ _ _ _ lk k (scR a lk) (scR b lk) _ _ w (fun w => seconds_calls a lk w ha) (fun w => seconds_calls b lk w hb) (fun w => rcompare_calls _ _ w) (fun w => rtexts_calls a.f b.f w) s.1 s.2 k0 k1
def mxE (a b : Mo8) (lk : Int) : Int × Bool := if apE a b lk (-840) ≠ apE a b lk 840 then (0, false) else (apE a b lk (-840), true)
/-- Two moments in the document. -/
def moE (a b : Mo8) (lk : Int) : Int × Bool := if a.z = b.z then (apE a b lk 0, true) else if a.z = true then mxE a b lk else (-(mxE b a lk).1, (mxE b a lk).2)
set_option maxRecDepth 100000 in
set_option maxHeartbeats 4000000 in
theorem mom_st (ay : Int) (amo : Int) (ad : Int) (ah : Int) (ami : Int) (as_ : Int) (af : ByteArray) (ao : Int) (by_ : Int) (bmo : Int) (bd : Int) (bh : Int) (bmi : Int) (bs : Int) (bf : ByteArray) (bo : Int) (lk v : Int) (w : World) (h1 : ∀ w, Calls Tryz.prog 93 #[.agg #[.int .i64 ay, .int .i64 amo, .int .i64 ad, .int .i64 ah, .int .i64 ami, .int .i64 as_, .string af, .bool true, .int .i64 ao], .agg #[.int .i64 by_, .int .i64 bmo, .int .i64 bd, .int .i64 bh, .int .i64 bmi, .int .i64 bs, .string bf, .bool true, .int .i64 bo], .int .i64 lk, .int .i64 0] w fun e w' => e = .returned (.int .i64 v) ∧ Below w.heap.size w w') :
    Calls Tryz.prog 45 #[.agg #[.int .i64 ay, .int .i64 amo, .int .i64 ad, .int .i64 ah, .int .i64 ami, .int .i64 as_, .string af, .bool true, .int .i64 ao], .agg #[.int .i64 by_, .int .i64 bmo, .int .i64 bd, .int .i64 bh, .int .i64 bmi, .int .i64 bs, .string bf, .bool true, .int .i64 bo], .int .i64 lk] w fun e w' => e = .returned (.tuple #[.int .i64 v, .bool true]) ∧ Below w.heap.size w w' := by
  have H1 := Lib.hid h1
  clear h1
  go_enter Tryz.func45, Tryz.ntmps45
  go_upto_region 1 with fail
  obtain ⟨r1, r2, hb⟩ := box2 w (.cells #[.int .i64 ay, .int .i64 amo, .int .i64 ad, .int .i64 ah, .int .i64 ami, .int .i64 as_, .string af, .bool true, .int .i64 ao] 69) (.cells #[.int .i64 by_, .int .i64 bmo, .int .i64 bd, .int .i64 bh, .int .i64 bmi, .int .i64 bs, .string bf, .bool true, .int .i64 bo] 69)
  generalize World.alloc (World.alloc w _) _ = w2 at r1 r2 hb ⊢
  have c0 := row_cell r1 0
  have d0 := row_cell r2 0
  have c1 := row_cell r1 1
  have d1 := row_cell r2 1
  have c2 := row_cell r1 2
  have d2 := row_cell r2 2
  have c3 := row_cell r1 3
  have d3 := row_cell r2 3
  have c4 := row_cell r1 4
  have d4 := row_cell r2 4
  have c5 := row_cell r1 5
  have d5 := row_cell r2 5
  have c6 := row_cell r1 6
  have d6 := row_cell r2 6
  have c7 := row_cell r1 7
  have d7 := row_cell r2 7
  have c8 := row_cell r1 8
  have d8 := row_cell r2 8
  simp at c0 d0 c1 d1 c2 d2 c3 d3 c4 d4 c5 d5 c6 d6 c7 d7 c8 d8
  have R1 := Lib.hid r1
  have R2 := Lib.hid r2
  have HB := Lib.hid hb
  clear hb r1 r2
  go_wp2_with (go_at_call 93; (with_reducible refine (H1.out _).mono ?_); rintro e w3 ⟨rfl, hb3⟩)
  go_ret2
  exact ⟨rfl, HB.out.trans (hb3.mono HB.out.size)⟩
set_option maxRecDepth 100000 in
set_option maxHeartbeats 4000000 in
theorem mom_sf (ay : Int) (amo : Int) (ad : Int) (ah : Int) (ami : Int) (as_ : Int) (af : ByteArray) (ao : Int) (by_ : Int) (bmo : Int) (bd : Int) (bh : Int) (bmi : Int) (bs : Int) (bf : ByteArray) (bo : Int) (lk v : Int) (w : World) (h1 : ∀ w, Calls Tryz.prog 93 #[.agg #[.int .i64 ay, .int .i64 amo, .int .i64 ad, .int .i64 ah, .int .i64 ami, .int .i64 as_, .string af, .bool false, .int .i64 ao], .agg #[.int .i64 by_, .int .i64 bmo, .int .i64 bd, .int .i64 bh, .int .i64 bmi, .int .i64 bs, .string bf, .bool false, .int .i64 bo], .int .i64 lk, .int .i64 0] w fun e w' => e = .returned (.int .i64 v) ∧ Below w.heap.size w w') :
    Calls Tryz.prog 45 #[.agg #[.int .i64 ay, .int .i64 amo, .int .i64 ad, .int .i64 ah, .int .i64 ami, .int .i64 as_, .string af, .bool false, .int .i64 ao], .agg #[.int .i64 by_, .int .i64 bmo, .int .i64 bd, .int .i64 bh, .int .i64 bmi, .int .i64 bs, .string bf, .bool false, .int .i64 bo], .int .i64 lk] w fun e w' => e = .returned (.tuple #[.int .i64 v, .bool true]) ∧ Below w.heap.size w w' := by
  have H1 := Lib.hid h1
  clear h1
  go_enter Tryz.func45, Tryz.ntmps45
  go_upto_region 1 with fail
  obtain ⟨r1, r2, hb⟩ := box2 w (.cells #[.int .i64 ay, .int .i64 amo, .int .i64 ad, .int .i64 ah, .int .i64 ami, .int .i64 as_, .string af, .bool false, .int .i64 ao] 69) (.cells #[.int .i64 by_, .int .i64 bmo, .int .i64 bd, .int .i64 bh, .int .i64 bmi, .int .i64 bs, .string bf, .bool false, .int .i64 bo] 69)
  generalize World.alloc (World.alloc w _) _ = w2 at r1 r2 hb ⊢
  have c0 := row_cell r1 0
  have d0 := row_cell r2 0
  have c1 := row_cell r1 1
  have d1 := row_cell r2 1
  have c2 := row_cell r1 2
  have d2 := row_cell r2 2
  have c3 := row_cell r1 3
  have d3 := row_cell r2 3
  have c4 := row_cell r1 4
  have d4 := row_cell r2 4
  have c5 := row_cell r1 5
  have d5 := row_cell r2 5
  have c6 := row_cell r1 6
  have d6 := row_cell r2 6
  have c7 := row_cell r1 7
  have d7 := row_cell r2 7
  have c8 := row_cell r1 8
  have d8 := row_cell r2 8
  simp at c0 d0 c1 d1 c2 d2 c3 d3 c4 d4 c5 d5 c6 d6 c7 d7 c8 d8
  have R1 := Lib.hid r1
  have R2 := Lib.hid r2
  have HB := Lib.hid hb
  clear hb r1 r2
  go_wp2_with (go_at_call 93; (with_reducible refine (H1.out _).mono ?_); rintro e w3 ⟨rfl, hb3⟩)
  go_ret2
  exact ⟨rfl, HB.out.trans (hb3.mono HB.out.size)⟩
set_option maxRecDepth 100000 in
set_option maxHeartbeats 4000000 in
theorem mom_me (ay : Int) (amo : Int) (ad : Int) (ah : Int) (ami : Int) (as_ : Int) (af : ByteArray) (ao : Int) (by_ : Int) (bmo : Int) (bd : Int) (bh : Int) (bmi : Int) (bs : Int) (bf : ByteArray) (bo : Int) (lk u v : Int) (w : World) (h1 : ∀ w, Calls Tryz.prog 93 #[.agg #[.int .i64 ay, .int .i64 amo, .int .i64 ad, .int .i64 ah, .int .i64 ami, .int .i64 as_, .string af, .bool true, .int .i64 ao], .agg #[.int .i64 by_, .int .i64 bmo, .int .i64 bd, .int .i64 bh, .int .i64 bmi, .int .i64 bs, .string bf, .bool false, .int .i64 bo], .int .i64 lk, .int .i64 (-840)] w fun e w' => e = .returned (.int .i64 u) ∧ Below w.heap.size w w') (h2 : ∀ w, Calls Tryz.prog 93 #[.agg #[.int .i64 ay, .int .i64 amo, .int .i64 ad, .int .i64 ah, .int .i64 ami, .int .i64 as_, .string af, .bool true, .int .i64 ao], .agg #[.int .i64 by_, .int .i64 bmo, .int .i64 bd, .int .i64 bh, .int .i64 bmi, .int .i64 bs, .string bf, .bool false, .int .i64 bo], .int .i64 lk, .int .i64 840] w fun e w' => e = .returned (.int .i64 v) ∧ Below w.heap.size w w') (hv : u = v) :
    Calls Tryz.prog 45 #[.agg #[.int .i64 ay, .int .i64 amo, .int .i64 ad, .int .i64 ah, .int .i64 ami, .int .i64 as_, .string af, .bool true, .int .i64 ao], .agg #[.int .i64 by_, .int .i64 bmo, .int .i64 bd, .int .i64 bh, .int .i64 bmi, .int .i64 bs, .string bf, .bool false, .int .i64 bo], .int .i64 lk] w fun e w' => e = .returned (.tuple #[.int .i64 u, .bool true]) ∧ Below w.heap.size w w' := by
  subst hv
  have H1 := Lib.hid h1
  have H2 := Lib.hid h2
  clear h1 h2
  go_enter Tryz.func45, Tryz.ntmps45
  go_upto_region 1 with fail
  obtain ⟨r1, r2, hb⟩ := box2 w (.cells #[.int .i64 ay, .int .i64 amo, .int .i64 ad, .int .i64 ah, .int .i64 ami, .int .i64 as_, .string af, .bool true, .int .i64 ao] 69) (.cells #[.int .i64 by_, .int .i64 bmo, .int .i64 bd, .int .i64 bh, .int .i64 bmi, .int .i64 bs, .string bf, .bool false, .int .i64 bo] 69)
  generalize World.alloc (World.alloc w _) _ = w2 at r1 r2 hb ⊢
  have c0 := row_cell r1 0
  have d0 := row_cell r2 0
  have c1 := row_cell r1 1
  have d1 := row_cell r2 1
  have c2 := row_cell r1 2
  have d2 := row_cell r2 2
  have c3 := row_cell r1 3
  have d3 := row_cell r2 3
  have c4 := row_cell r1 4
  have d4 := row_cell r2 4
  have c5 := row_cell r1 5
  have d5 := row_cell r2 5
  have c6 := row_cell r1 6
  have d6 := row_cell r2 6
  have c7 := row_cell r1 7
  have d7 := row_cell r2 7
  have c8 := row_cell r1 8
  have d8 := row_cell r2 8
  simp at c0 d0 c1 d1 c2 d2 c3 d3 c4 d4 c5 d5 c6 d6 c7 d7 c8 d8
  have R1 := Lib.hid r1
  have R2 := Lib.hid r2
  have HB := Lib.hid hb
  clear hb r1 r2
  go_wp2_with (first | (go_at_call 93; (with_reducible refine (H1.out _).mono ?_); rintro e w3 ⟨rfl, hb3⟩; (have r1m := (hb3.block _ (Array.getElem?_eq_some_iff.1 R1.out).1).trans R1.out); (have r2m := (hb3.block _ (Array.getElem?_eq_some_iff.1 R2.out).1).trans R2.out); (have cm0 := row_cell r1m 0); (have dm0 := row_cell r2m 0); (have cm1 := row_cell r1m 1); (have dm1 := row_cell r2m 1); (have cm2 := row_cell r1m 2); (have dm2 := row_cell r2m 2); (have cm3 := row_cell r1m 3); (have dm3 := row_cell r2m 3); (have cm4 := row_cell r1m 4); (have dm4 := row_cell r2m 4); (have cm5 := row_cell r1m 5); (have dm5 := row_cell r2m 5); (have cm6 := row_cell r1m 6); (have dm6 := row_cell r2m 6); (have cm7 := row_cell r1m 7); (have dm7 := row_cell r2m 7); (have cm8 := row_cell r1m 8); (have dm8 := row_cell r2m 8); (simp at cm0 dm0 cm1 dm1 cm2 dm2 cm3 dm3 cm4 dm4 cm5 dm5 cm6 dm6 cm7 dm7 cm8 dm8); (have R1m := Lib.hid r1m); (have R2m := Lib.hid r2m); clear r1m r2m) | (go_at_call 93; (with_reducible refine (H2.out _).mono ?_); rintro e w4 ⟨rfl, hb4⟩))
  go_ret2
  have q3 := HB.out.trans (hb3.mono HB.out.size)
  exact ⟨rfl, q3.trans (hb4.mono q3.size)⟩
set_option maxRecDepth 100000 in
set_option maxHeartbeats 4000000 in
theorem mom_mn (ay : Int) (amo : Int) (ad : Int) (ah : Int) (ami : Int) (as_ : Int) (af : ByteArray) (ao : Int) (by_ : Int) (bmo : Int) (bd : Int) (bh : Int) (bmi : Int) (bs : Int) (bf : ByteArray) (bo : Int) (lk u v : Int) (w : World) (h1 : ∀ w, Calls Tryz.prog 93 #[.agg #[.int .i64 ay, .int .i64 amo, .int .i64 ad, .int .i64 ah, .int .i64 ami, .int .i64 as_, .string af, .bool true, .int .i64 ao], .agg #[.int .i64 by_, .int .i64 bmo, .int .i64 bd, .int .i64 bh, .int .i64 bmi, .int .i64 bs, .string bf, .bool false, .int .i64 bo], .int .i64 lk, .int .i64 (-840)] w fun e w' => e = .returned (.int .i64 u) ∧ Below w.heap.size w w') (h2 : ∀ w, Calls Tryz.prog 93 #[.agg #[.int .i64 ay, .int .i64 amo, .int .i64 ad, .int .i64 ah, .int .i64 ami, .int .i64 as_, .string af, .bool true, .int .i64 ao], .agg #[.int .i64 by_, .int .i64 bmo, .int .i64 bd, .int .i64 bh, .int .i64 bmi, .int .i64 bs, .string bf, .bool false, .int .i64 bo], .int .i64 lk, .int .i64 840] w fun e w' => e = .returned (.int .i64 v) ∧ Below w.heap.size w w') (hv : u ≠ v) :
    Calls Tryz.prog 45 #[.agg #[.int .i64 ay, .int .i64 amo, .int .i64 ad, .int .i64 ah, .int .i64 ami, .int .i64 as_, .string af, .bool true, .int .i64 ao], .agg #[.int .i64 by_, .int .i64 bmo, .int .i64 bd, .int .i64 bh, .int .i64 bmi, .int .i64 bs, .string bf, .bool false, .int .i64 bo], .int .i64 lk] w fun e w' => e = .returned (.tuple #[.int .i64 0, .bool false]) ∧ Below w.heap.size w w' := by
  have hvb : (u != v) = true := bne_iff_ne.2 hv
  have H1 := Lib.hid h1
  have H2 := Lib.hid h2
  clear h1 h2 hv
  go_enter Tryz.func45, Tryz.ntmps45
  go_upto_region 1 with fail
  obtain ⟨r1, r2, hb⟩ := box2 w (.cells #[.int .i64 ay, .int .i64 amo, .int .i64 ad, .int .i64 ah, .int .i64 ami, .int .i64 as_, .string af, .bool true, .int .i64 ao] 69) (.cells #[.int .i64 by_, .int .i64 bmo, .int .i64 bd, .int .i64 bh, .int .i64 bmi, .int .i64 bs, .string bf, .bool false, .int .i64 bo] 69)
  generalize World.alloc (World.alloc w _) _ = w2 at r1 r2 hb ⊢
  have c0 := row_cell r1 0
  have d0 := row_cell r2 0
  have c1 := row_cell r1 1
  have d1 := row_cell r2 1
  have c2 := row_cell r1 2
  have d2 := row_cell r2 2
  have c3 := row_cell r1 3
  have d3 := row_cell r2 3
  have c4 := row_cell r1 4
  have d4 := row_cell r2 4
  have c5 := row_cell r1 5
  have d5 := row_cell r2 5
  have c6 := row_cell r1 6
  have d6 := row_cell r2 6
  have c7 := row_cell r1 7
  have d7 := row_cell r2 7
  have c8 := row_cell r1 8
  have d8 := row_cell r2 8
  simp at c0 d0 c1 d1 c2 d2 c3 d3 c4 d4 c5 d5 c6 d6 c7 d7 c8 d8
  have R1 := Lib.hid r1
  have R2 := Lib.hid r2
  have HB := Lib.hid hb
  clear hb r1 r2
  go_wp2_with (first | (go_at_call 93; (with_reducible refine (H1.out _).mono ?_); rintro e w3 ⟨rfl, hb3⟩; (have r1m := (hb3.block _ (Array.getElem?_eq_some_iff.1 R1.out).1).trans R1.out); (have r2m := (hb3.block _ (Array.getElem?_eq_some_iff.1 R2.out).1).trans R2.out); (have cm0 := row_cell r1m 0); (have dm0 := row_cell r2m 0); (have cm1 := row_cell r1m 1); (have dm1 := row_cell r2m 1); (have cm2 := row_cell r1m 2); (have dm2 := row_cell r2m 2); (have cm3 := row_cell r1m 3); (have dm3 := row_cell r2m 3); (have cm4 := row_cell r1m 4); (have dm4 := row_cell r2m 4); (have cm5 := row_cell r1m 5); (have dm5 := row_cell r2m 5); (have cm6 := row_cell r1m 6); (have dm6 := row_cell r2m 6); (have cm7 := row_cell r1m 7); (have dm7 := row_cell r2m 7); (have cm8 := row_cell r1m 8); (have dm8 := row_cell r2m 8); (simp at cm0 dm0 cm1 dm1 cm2 dm2 cm3 dm3 cm4 dm4 cm5 dm5 cm6 dm6 cm7 dm7 cm8 dm8); (have R1m := Lib.hid r1m); (have R2m := Lib.hid r2m); clear r1m r2m) | (go_at_call 93; (with_reducible refine (H2.out _).mono ?_); rintro e w4 ⟨rfl, hb4⟩))
  go_ret2
  have q3 := HB.out.trans (hb3.mono HB.out.size)
  exact ⟨rfl, q3.trans (hb4.mono q3.size)⟩
set_option maxRecDepth 100000 in
set_option maxHeartbeats 4000000 in
theorem mom_w (ay : Int) (amo : Int) (ad : Int) (ah : Int) (ami : Int) (as_ : Int) (af : ByteArray) (ao : Int) (by_ : Int) (bmo : Int) (bd : Int) (bh : Int) (bmi : Int) (bs : Int) (bf : ByteArray) (bo : Int) (lk u : Int) (ok : Bool) (w : World) (u0 : -1 ≤ u) (u1 : u ≤ 1) (h1 : ∀ w, Calls Tryz.prog 45 #[.agg #[.int .i64 by_, .int .i64 bmo, .int .i64 bd, .int .i64 bh, .int .i64 bmi, .int .i64 bs, .string bf, .bool true, .int .i64 bo], .agg #[.int .i64 ay, .int .i64 amo, .int .i64 ad, .int .i64 ah, .int .i64 ami, .int .i64 as_, .string af, .bool false, .int .i64 ao], .int .i64 lk] w fun e w' => e = .returned (.tuple #[.int .i64 u, .bool ok]) ∧ Below w.heap.size w w') :
    Calls Tryz.prog 45 #[.agg #[.int .i64 ay, .int .i64 amo, .int .i64 ad, .int .i64 ah, .int .i64 ami, .int .i64 as_, .string af, .bool false, .int .i64 ao], .agg #[.int .i64 by_, .int .i64 bmo, .int .i64 bd, .int .i64 bh, .int .i64 bmi, .int .i64 bs, .string bf, .bool true, .int .i64 bo], .int .i64 lk] w fun e w' => e = .returned (.tuple #[.int .i64 (-u), .bool ok]) ∧ Below w.heap.size w w' := by
  have H1 := Lib.hid h1
  clear h1
  go_enter Tryz.func45, Tryz.ntmps45
  go_upto_region 1 with fail
  obtain ⟨r1, r2, hb⟩ := box2 w (.cells #[.int .i64 ay, .int .i64 amo, .int .i64 ad, .int .i64 ah, .int .i64 ami, .int .i64 as_, .string af, .bool false, .int .i64 ao] 69) (.cells #[.int .i64 by_, .int .i64 bmo, .int .i64 bd, .int .i64 bh, .int .i64 bmi, .int .i64 bs, .string bf, .bool true, .int .i64 bo] 69)
  generalize World.alloc (World.alloc w _) _ = w2 at r1 r2 hb ⊢
  have c0 := row_cell r1 0
  have d0 := row_cell r2 0
  have c1 := row_cell r1 1
  have d1 := row_cell r2 1
  have c2 := row_cell r1 2
  have d2 := row_cell r2 2
  have c3 := row_cell r1 3
  have d3 := row_cell r2 3
  have c4 := row_cell r1 4
  have d4 := row_cell r2 4
  have c5 := row_cell r1 5
  have d5 := row_cell r2 5
  have c6 := row_cell r1 6
  have d6 := row_cell r2 6
  have c7 := row_cell r1 7
  have d7 := row_cell r2 7
  have c8 := row_cell r1 8
  have d8 := row_cell r2 8
  simp at c0 d0 c1 d1 c2 d2 c3 d3 c4 d4 c5 d5 c6 d6 c7 d7 c8 d8
  have R1 := Lib.hid r1
  have R2 := Lib.hid r2
  have HB := Lib.hid hb
  clear hb r1 r2
  go_wp2_with (go_at_call 45; (with_reducible refine (H1.out _).mono ?_); rintro e w3 ⟨rfl, hb3⟩)
  go_ret2
  exact ⟨rfl, HB.out.trans (hb3.mono HB.out.size)⟩
theorem apE_rng (a b : Mo8) (lk k : Int) : -1 ≤ apE a b lk k ∧ apE a b lk k ≤ 1 := by
  have h1 := cmB_rng a.f.data.toList b.f.data.toList
  have h2 : ∀ x y : Int, -1 ≤ cmZ x y ∧ cmZ x y ≤ 1 := fun x y => by unfold cmZ; split; omega; split <;> omega
  have h3 := h2 (scR a lk) (scR b lk + 60 * k)
  unfold apE
  split
  · omega
  · exact h3
theorem mix_calls (a b : Mo8) (lk : Int) (w : World) (ha : a.In) (hb : b.In) (h1 : a.z = true) (h2 : b.z = false) :
    Calls Tryz.prog 45 #[.agg a.cells, .agg b.cells, .int .i64 lk] w fun e w' => e = .returned (.tuple #[.int .i64 (mxE a b lk).1, .bool (mxE a b lk).2]) ∧ Below w.heap.size w w' := by
  have e1 := fun w => apart_calls a b lk (-840) w ha hb (by omega) (by omega)
  have e2 := fun w => apart_calls a b lk 840 w ha hb (by omega) (by omega)
  obtain ⟨u, hu⟩ : ∃ u, u = apE a b lk (-840) := ⟨_, rfl⟩
  obtain ⟨v, hv⟩ : ∃ u, u = apE a b lk 840 := ⟨_, rfl⟩
  rw [← hu] at e1
  rw [← hv] at e2
  unfold mxE
  rw [← hu, ← hv]
  clear hu hv ha hb
  obtain ⟨ay, amo, ad, ah, ami, as_, af, az, ao⟩ := a
  obtain ⟨by_, bmo, bd, bh, bmi, bs, bf, bz, bo⟩ := b
  dsimp only at h1 h2
  subst h1 h2
  by_cases c : u = v
  · rw [if_neg (by simp [c])]
    exact mom_me _ _ _ _ _ _ _ _ _ _ _ _ _ _ _ _ lk u v w e1 e2 c
  · rw [if_pos c]
    exact mom_mn _ _ _ _ _ _ _ _ _ _ _ _ _ _ _ _ lk u v w e1 e2 c
/-- The document's moments. -/
theorem moments_calls (a b : Mo8) (lk : Int) (w : World) (ha : a.In) (hb : b.In) :
    Calls Tryz.prog 45 #[.agg a.cells, .agg b.cells, .int .i64 lk] w fun e w' => e = .returned (.tuple #[.int .i64 (moE a b lk).1, .bool (moE a b lk).2]) ∧ Below w.heap.size w w' := by
  unfold moE
  by_cases hz : a.z = b.z
  · rw [if_pos hz]
    have e1 := fun w => apart_calls a b lk 0 w ha hb (by omega) (by omega)
    obtain ⟨u, hu⟩ : ∃ u, u = apE a b lk 0 := ⟨_, rfl⟩
    rw [← hu] at e1 ⊢
    clear hu ha hb
    obtain ⟨ay, amo, ad, ah, ami, as_, af, az, ao⟩ := a
    obtain ⟨by_, bmo, bd, bh, bmi, bs, bf, bz, bo⟩ := b
    dsimp only at hz
    subst hz
    cases az
    · exact mom_sf _ _ _ _ _ _ _ _ _ _ _ _ _ _ _ _ lk u w e1
    · exact mom_st _ _ _ _ _ _ _ _ _ _ _ _ _ _ _ _ lk u w e1
  · rw [if_neg hz]
    cases h1 : a.z with
    | true =>
      rw [if_pos rfl]
      exact mix_calls a b lk w ha hb h1 (by rw [h1] at hz; cases h : b.z with | true => exact absurd h.symm hz | false => rfl)
    | false =>
      rw [if_neg (by simp)]
      have h2 : b.z = true := by rw [h1] at hz; cases h : b.z with | false => exact absurd h.symm hz | true => rfl
      have hc := fun w => mix_calls b a lk w hb ha h2 h1
      have hr : -1 ≤ (mxE b a lk).1 ∧ (mxE b a lk).1 ≤ 1 := by unfold mxE; split; exact ⟨by decide, by decide⟩; exact apE_rng _ _ _ _
      obtain ⟨X, hX⟩ : ∃ X, X = mxE b a lk := ⟨_, rfl⟩
      rw [← hX] at hc hr ⊢
      clear hX ha hb hz
      obtain ⟨ay, amo, ad, ah, ami, as_, af, az, ao⟩ := a
      obtain ⟨by_, bmo, bd, bh, bmi, bs, bf, bz, bo⟩ := b
      dsimp only at h1 h2
      subst h1 h2
      exact mom_w _ _ _ _ _ _ _ _ _ _ _ _ _ _ _ _ lk X.1 X.2 w hr.1 hr.2 hc
end Go.Proofs.YtlhcejbimlilaaaGreatDoor
/- The document's within (written by gen_vdi.py). -/
namespace Go.Proofs.YtlhcejbimlilaaaGreatDoor
open Go.RowKit Go.Tk
set_option maxRecDepth 100000 in
set_option maxHeartbeats 4000000 in
theorem wi_00 (nm lo hi s : ByteArray) (lk : Int) (w : World) (n1 n2 n3 : Bool) (nd : ByteArray) (np : Int) (l1 l2 l3 : Bool) (ld : ByteArray) (lp : Int) (h1 h2 h3 : Bool) (hd : ByteArray) (hp : Int) (ok1 ok2 ok3 : Bool) (c1 c2 : Int) (el : (lo.toList == []) = true) (eh : (hi.toList == []) = true)
    (hs : ∀ w, Calls Tryz.prog 70 #[.string s, .int .i64 0] w fun e w' => e = .returned (.tuple #[.agg #[.bool n1, .bool n2, .bool n3, .string nd, .int .i64 np], .bool ok1]) ∧ Below w.heap.size w w') (hl : ∀ w, Calls Tryz.prog 70 #[.string lo, .int .i64 0] w fun e w' => e = .returned (.tuple #[.agg #[.bool l1, .bool l2, .bool l3, .string ld, .int .i64 lp], .bool ok2]) ∧ Below w.heap.size w w') (hh : ∀ w, Calls Tryz.prog 70 #[.string hi, .int .i64 0] w fun e w' => e = .returned (.tuple #[.agg #[.bool h1, .bool h2, .bool h3, .string hd, .int .i64 hp], .bool ok3]) ∧ Below w.heap.size w w') :
    Calls Tryz.prog 72 #[.agg #[.string nm, .int .i64 lk, .string lo, .string hi], .string s] w fun e w' => e = .returned (.bool true) ∧ Below w.heap.size w w' := by
  have HS := Lib.hid hs
  have HL := Lib.hid hl
  have HH := Lib.hid hh
  clear hs hl hh
  go_enter Tryz.func72, Tryz.ntmps72
  go_upto_region 1 with fail
  obtain ⟨rk, hb⟩ := box1 w (.cells #[.string nm, .int .i64 lk, .string lo, .string hi] 48)
  generalize World.alloc w _ = w2 at rk hb ⊢
  have HB := Lib.hid hb
  have HRk := Lib.hid rk
  clear hb rk
  go_upto_region 2 with (go_at_call 70; (with_reducible refine (HS.out _).mono ?_); rintro e w1 ⟨rfl, hbx⟩)
  replace HB := Lib.hid (HB.out.trans (hbx.mono HB.out.size))
  replace HRk := Lib.hid ((hbx.block _ (lt_of_block HRk.out)).trans HRk.out)
  clear hbx
  obtain ⟨rx, hbx⟩ := box1 w1 (.cells #[.bool n1, .bool n2, .bool n3, .string nd, .int .i64 np] 61)
  generalize World.alloc w1 _ = w3 at rx hbx ⊢
  replace HB := Lib.hid (HB.out.trans (hbx.mono HB.out.size))
  replace HRk := Lib.hid ((hbx.block _ (lt_of_block HRk.out)).trans HRk.out)
  have HRn := Lib.hid rx
  clear hbx rx
  have rk := HRk.out
  have k0 := row_cell rk 0
  have k1 := row_cell rk 1
  have k2 := row_cell rk 2
  have k3 := row_cell rk 3
  simp at k0 k1 k2 k3
  clear rk
  go_upto_region 3 with (go_at_call 70; (with_reducible refine (HL.out _).mono ?_); rintro e w1 ⟨rfl, hbx⟩)
  replace HB := Lib.hid (HB.out.trans (hbx.mono HB.out.size))
  clear k0 k1 k2 k3
  replace HRk := Lib.hid ((hbx.block _ (lt_of_block HRk.out)).trans HRk.out)
  replace HRn := Lib.hid ((hbx.block _ (lt_of_block HRn.out)).trans HRn.out)
  clear hbx
  obtain ⟨rx, hbx⟩ := box1 w1 (.cells #[.bool l1, .bool l2, .bool l3, .string ld, .int .i64 lp] 61)
  generalize World.alloc w1 _ = w4 at rx hbx ⊢
  replace HB := Lib.hid (HB.out.trans (hbx.mono HB.out.size))
  replace HRk := Lib.hid ((hbx.block _ (lt_of_block HRk.out)).trans HRk.out)
  replace HRn := Lib.hid ((hbx.block _ (lt_of_block HRn.out)).trans HRn.out)
  have HRl := Lib.hid rx
  clear hbx rx
  have rk := HRk.out
  have k0 := row_cell rk 0
  have k1 := row_cell rk 1
  have k2 := row_cell rk 2
  have k3 := row_cell rk 3
  simp at k0 k1 k2 k3
  clear rk
  go_upto_region 4 with (go_at_call 70; (with_reducible refine (HH.out _).mono ?_); rintro e w1 ⟨rfl, hbx⟩)
  replace HB := Lib.hid (HB.out.trans (hbx.mono HB.out.size))
  clear k0 k1 k2 k3
  replace HRk := Lib.hid ((hbx.block _ (lt_of_block HRk.out)).trans HRk.out)
  replace HRn := Lib.hid ((hbx.block _ (lt_of_block HRn.out)).trans HRn.out)
  replace HRl := Lib.hid ((hbx.block _ (lt_of_block HRl.out)).trans HRl.out)
  clear hbx
  obtain ⟨rx, hbx⟩ := box1 w1 (.cells #[.bool h1, .bool h2, .bool h3, .string hd, .int .i64 hp] 61)
  generalize World.alloc w1 _ = w5 at rx hbx ⊢
  replace HB := Lib.hid (HB.out.trans (hbx.mono HB.out.size))
  replace HRk := Lib.hid ((hbx.block _ (lt_of_block HRk.out)).trans HRk.out)
  replace HRn := Lib.hid ((hbx.block _ (lt_of_block HRn.out)).trans HRn.out)
  replace HRl := Lib.hid ((hbx.block _ (lt_of_block HRl.out)).trans HRl.out)
  have HRh := Lib.hid rx
  clear hbx rx
  have rk := HRk.out
  have k0 := row_cell rk 0
  have k1 := row_cell rk 1
  have k2 := row_cell rk 2
  have k3 := row_cell rk 3
  simp at k0 k1 k2 k3
  clear rk
  have rr := HRn.out
  have nc0 := row_cell rr 0
  have nc1 := row_cell rr 1
  have nc2 := row_cell rr 2
  have nc3 := row_cell rr 3
  have nc4 := row_cell rr 4
  simp at nc0 nc1 nc2 nc3 nc4
  clear rr
  have rr := HRl.out
  have lc0 := row_cell rr 0
  have lc1 := row_cell rr 1
  have lc2 := row_cell rr 2
  have lc3 := row_cell rr 3
  have lc4 := row_cell rr 4
  simp at lc0 lc1 lc2 lc3 lc4
  clear rr
  have rr := HRh.out
  have hc0 := row_cell rr 0
  have hc1 := row_cell rr 1
  have hc2 := row_cell rr 2
  have hc3 := row_cell rr 3
  have hc4 := row_cell rr 4
  simp at hc0 hc1 hc2 hc3 hc4
  clear rr
  go_wp2_with fail
  go_ret
  exact ⟨rfl, HB.out⟩
set_option maxRecDepth 100000 in
set_option maxHeartbeats 4000000 in
theorem wi_01 (nm lo hi s : ByteArray) (lk : Int) (w : World) (n1 n2 n3 : Bool) (nd : ByteArray) (np : Int) (l1 l2 l3 : Bool) (ld : ByteArray) (lp : Int) (h1 h2 h3 : Bool) (hd : ByteArray) (hp : Int) (ok1 ok2 ok3 : Bool) (c1 c2 : Int) (el : (lo.toList == []) = true) (eh : (hi.toList == []) = false)
    (hs : ∀ w, Calls Tryz.prog 70 #[.string s, .int .i64 0] w fun e w' => e = .returned (.tuple #[.agg #[.bool n1, .bool n2, .bool n3, .string nd, .int .i64 np], .bool ok1]) ∧ Below w.heap.size w w') (hl : ∀ w, Calls Tryz.prog 70 #[.string lo, .int .i64 0] w fun e w' => e = .returned (.tuple #[.agg #[.bool l1, .bool l2, .bool l3, .string ld, .int .i64 lp], .bool ok2]) ∧ Below w.heap.size w w') (hh : ∀ w, Calls Tryz.prog 70 #[.string hi, .int .i64 0] w fun e w' => e = .returned (.tuple #[.agg #[.bool h1, .bool h2, .bool h3, .string hd, .int .i64 hp], .bool ok3]) ∧ Below w.heap.size w w') (ho2 : ∀ w, Calls Tryz.prog 40 #[.agg #[.bool n1, .bool n2, .bool n3, .string nd, .int .i64 np], .agg #[.bool h1, .bool h2, .bool h3, .string hd, .int .i64 hp]] w fun e w' => e = .returned (.int .i64 c2) ∧ Below w.heap.size w w') :
    Calls Tryz.prog 72 #[.agg #[.string nm, .int .i64 lk, .string lo, .string hi], .string s] w fun e w' => e = .returned (.bool (decide (c2 ≤ 0))) ∧ Below w.heap.size w w' := by
  have HS := Lib.hid hs
  have HL := Lib.hid hl
  have HH := Lib.hid hh
  have HO2 := Lib.hid ho2
  clear hs hl hh ho2
  go_enter Tryz.func72, Tryz.ntmps72
  go_upto_region 1 with fail
  obtain ⟨rk, hb⟩ := box1 w (.cells #[.string nm, .int .i64 lk, .string lo, .string hi] 48)
  generalize World.alloc w _ = w2 at rk hb ⊢
  have HB := Lib.hid hb
  have HRk := Lib.hid rk
  clear hb rk
  go_upto_region 2 with (go_at_call 70; (with_reducible refine (HS.out _).mono ?_); rintro e w1 ⟨rfl, hbx⟩)
  replace HB := Lib.hid (HB.out.trans (hbx.mono HB.out.size))
  replace HRk := Lib.hid ((hbx.block _ (lt_of_block HRk.out)).trans HRk.out)
  clear hbx
  obtain ⟨rx, hbx⟩ := box1 w1 (.cells #[.bool n1, .bool n2, .bool n3, .string nd, .int .i64 np] 61)
  generalize World.alloc w1 _ = w3 at rx hbx ⊢
  replace HB := Lib.hid (HB.out.trans (hbx.mono HB.out.size))
  replace HRk := Lib.hid ((hbx.block _ (lt_of_block HRk.out)).trans HRk.out)
  have HRn := Lib.hid rx
  clear hbx rx
  have rk := HRk.out
  have k0 := row_cell rk 0
  have k1 := row_cell rk 1
  have k2 := row_cell rk 2
  have k3 := row_cell rk 3
  simp at k0 k1 k2 k3
  clear rk
  go_upto_region 3 with (go_at_call 70; (with_reducible refine (HL.out _).mono ?_); rintro e w1 ⟨rfl, hbx⟩)
  replace HB := Lib.hid (HB.out.trans (hbx.mono HB.out.size))
  clear k0 k1 k2 k3
  replace HRk := Lib.hid ((hbx.block _ (lt_of_block HRk.out)).trans HRk.out)
  replace HRn := Lib.hid ((hbx.block _ (lt_of_block HRn.out)).trans HRn.out)
  clear hbx
  obtain ⟨rx, hbx⟩ := box1 w1 (.cells #[.bool l1, .bool l2, .bool l3, .string ld, .int .i64 lp] 61)
  generalize World.alloc w1 _ = w4 at rx hbx ⊢
  replace HB := Lib.hid (HB.out.trans (hbx.mono HB.out.size))
  replace HRk := Lib.hid ((hbx.block _ (lt_of_block HRk.out)).trans HRk.out)
  replace HRn := Lib.hid ((hbx.block _ (lt_of_block HRn.out)).trans HRn.out)
  have HRl := Lib.hid rx
  clear hbx rx
  have rk := HRk.out
  have k0 := row_cell rk 0
  have k1 := row_cell rk 1
  have k2 := row_cell rk 2
  have k3 := row_cell rk 3
  simp at k0 k1 k2 k3
  clear rk
  go_upto_region 4 with (go_at_call 70; (with_reducible refine (HH.out _).mono ?_); rintro e w1 ⟨rfl, hbx⟩)
  replace HB := Lib.hid (HB.out.trans (hbx.mono HB.out.size))
  clear k0 k1 k2 k3
  replace HRk := Lib.hid ((hbx.block _ (lt_of_block HRk.out)).trans HRk.out)
  replace HRn := Lib.hid ((hbx.block _ (lt_of_block HRn.out)).trans HRn.out)
  replace HRl := Lib.hid ((hbx.block _ (lt_of_block HRl.out)).trans HRl.out)
  clear hbx
  obtain ⟨rx, hbx⟩ := box1 w1 (.cells #[.bool h1, .bool h2, .bool h3, .string hd, .int .i64 hp] 61)
  generalize World.alloc w1 _ = w5 at rx hbx ⊢
  replace HB := Lib.hid (HB.out.trans (hbx.mono HB.out.size))
  replace HRk := Lib.hid ((hbx.block _ (lt_of_block HRk.out)).trans HRk.out)
  replace HRn := Lib.hid ((hbx.block _ (lt_of_block HRn.out)).trans HRn.out)
  replace HRl := Lib.hid ((hbx.block _ (lt_of_block HRl.out)).trans HRl.out)
  have HRh := Lib.hid rx
  clear hbx rx
  have rk := HRk.out
  have k0 := row_cell rk 0
  have k1 := row_cell rk 1
  have k2 := row_cell rk 2
  have k3 := row_cell rk 3
  simp at k0 k1 k2 k3
  clear rk
  have rr := HRn.out
  have nc0 := row_cell rr 0
  have nc1 := row_cell rr 1
  have nc2 := row_cell rr 2
  have nc3 := row_cell rr 3
  have nc4 := row_cell rr 4
  simp at nc0 nc1 nc2 nc3 nc4
  clear rr
  have rr := HRl.out
  have lc0 := row_cell rr 0
  have lc1 := row_cell rr 1
  have lc2 := row_cell rr 2
  have lc3 := row_cell rr 3
  have lc4 := row_cell rr 4
  simp at lc0 lc1 lc2 lc3 lc4
  clear rr
  have rr := HRh.out
  have hc0 := row_cell rr 0
  have hc1 := row_cell rr 1
  have hc2 := row_cell rr 2
  have hc3 := row_cell rr 3
  have hc4 := row_cell rr 4
  simp at hc0 hc1 hc2 hc3 hc4
  clear rr
  go_wp2_with (go_at_call 40; (with_reducible refine (HO2.out _).mono ?_); rintro e w7 ⟨rfl, hbz⟩)
  go_ret
  exact ⟨rfl, HB.out.trans (hbz.mono HB.out.size)⟩
set_option maxRecDepth 100000 in
set_option maxHeartbeats 4000000 in
theorem wi_10 (nm lo hi s : ByteArray) (lk : Int) (w : World) (n1 n2 n3 : Bool) (nd : ByteArray) (np : Int) (l1 l2 l3 : Bool) (ld : ByteArray) (lp : Int) (h1 h2 h3 : Bool) (hd : ByteArray) (hp : Int) (ok1 ok2 ok3 : Bool) (c1 c2 : Int) (el : (lo.toList == []) = false) (eh : (hi.toList == []) = true) (hc : c1 ≤ 0)
    (hs : ∀ w, Calls Tryz.prog 70 #[.string s, .int .i64 0] w fun e w' => e = .returned (.tuple #[.agg #[.bool n1, .bool n2, .bool n3, .string nd, .int .i64 np], .bool ok1]) ∧ Below w.heap.size w w') (hl : ∀ w, Calls Tryz.prog 70 #[.string lo, .int .i64 0] w fun e w' => e = .returned (.tuple #[.agg #[.bool l1, .bool l2, .bool l3, .string ld, .int .i64 lp], .bool ok2]) ∧ Below w.heap.size w w') (hh : ∀ w, Calls Tryz.prog 70 #[.string hi, .int .i64 0] w fun e w' => e = .returned (.tuple #[.agg #[.bool h1, .bool h2, .bool h3, .string hd, .int .i64 hp], .bool ok3]) ∧ Below w.heap.size w w') (ho1 : ∀ w, Calls Tryz.prog 40 #[.agg #[.bool l1, .bool l2, .bool l3, .string ld, .int .i64 lp], .agg #[.bool n1, .bool n2, .bool n3, .string nd, .int .i64 np]] w fun e w' => e = .returned (.int .i64 c1) ∧ Below w.heap.size w w') :
    Calls Tryz.prog 72 #[.agg #[.string nm, .int .i64 lk, .string lo, .string hi], .string s] w fun e w' => e = .returned (.bool true) ∧ Below w.heap.size w w' := by
  have HS := Lib.hid hs
  have HL := Lib.hid hl
  have HH := Lib.hid hh
  have HO1 := Lib.hid ho1
  clear hs hl hh ho1
  go_enter Tryz.func72, Tryz.ntmps72
  go_upto_region 1 with fail
  obtain ⟨rk, hb⟩ := box1 w (.cells #[.string nm, .int .i64 lk, .string lo, .string hi] 48)
  generalize World.alloc w _ = w2 at rk hb ⊢
  have HB := Lib.hid hb
  have HRk := Lib.hid rk
  clear hb rk
  go_upto_region 2 with (go_at_call 70; (with_reducible refine (HS.out _).mono ?_); rintro e w1 ⟨rfl, hbx⟩)
  replace HB := Lib.hid (HB.out.trans (hbx.mono HB.out.size))
  replace HRk := Lib.hid ((hbx.block _ (lt_of_block HRk.out)).trans HRk.out)
  clear hbx
  obtain ⟨rx, hbx⟩ := box1 w1 (.cells #[.bool n1, .bool n2, .bool n3, .string nd, .int .i64 np] 61)
  generalize World.alloc w1 _ = w3 at rx hbx ⊢
  replace HB := Lib.hid (HB.out.trans (hbx.mono HB.out.size))
  replace HRk := Lib.hid ((hbx.block _ (lt_of_block HRk.out)).trans HRk.out)
  have HRn := Lib.hid rx
  clear hbx rx
  have rk := HRk.out
  have k0 := row_cell rk 0
  have k1 := row_cell rk 1
  have k2 := row_cell rk 2
  have k3 := row_cell rk 3
  simp at k0 k1 k2 k3
  clear rk
  go_upto_region 3 with (go_at_call 70; (with_reducible refine (HL.out _).mono ?_); rintro e w1 ⟨rfl, hbx⟩)
  replace HB := Lib.hid (HB.out.trans (hbx.mono HB.out.size))
  clear k0 k1 k2 k3
  replace HRk := Lib.hid ((hbx.block _ (lt_of_block HRk.out)).trans HRk.out)
  replace HRn := Lib.hid ((hbx.block _ (lt_of_block HRn.out)).trans HRn.out)
  clear hbx
  obtain ⟨rx, hbx⟩ := box1 w1 (.cells #[.bool l1, .bool l2, .bool l3, .string ld, .int .i64 lp] 61)
  generalize World.alloc w1 _ = w4 at rx hbx ⊢
  replace HB := Lib.hid (HB.out.trans (hbx.mono HB.out.size))
  replace HRk := Lib.hid ((hbx.block _ (lt_of_block HRk.out)).trans HRk.out)
  replace HRn := Lib.hid ((hbx.block _ (lt_of_block HRn.out)).trans HRn.out)
  have HRl := Lib.hid rx
  clear hbx rx
  have rk := HRk.out
  have k0 := row_cell rk 0
  have k1 := row_cell rk 1
  have k2 := row_cell rk 2
  have k3 := row_cell rk 3
  simp at k0 k1 k2 k3
  clear rk
  go_upto_region 4 with (go_at_call 70; (with_reducible refine (HH.out _).mono ?_); rintro e w1 ⟨rfl, hbx⟩)
  replace HB := Lib.hid (HB.out.trans (hbx.mono HB.out.size))
  clear k0 k1 k2 k3
  replace HRk := Lib.hid ((hbx.block _ (lt_of_block HRk.out)).trans HRk.out)
  replace HRn := Lib.hid ((hbx.block _ (lt_of_block HRn.out)).trans HRn.out)
  replace HRl := Lib.hid ((hbx.block _ (lt_of_block HRl.out)).trans HRl.out)
  clear hbx
  obtain ⟨rx, hbx⟩ := box1 w1 (.cells #[.bool h1, .bool h2, .bool h3, .string hd, .int .i64 hp] 61)
  generalize World.alloc w1 _ = w5 at rx hbx ⊢
  replace HB := Lib.hid (HB.out.trans (hbx.mono HB.out.size))
  replace HRk := Lib.hid ((hbx.block _ (lt_of_block HRk.out)).trans HRk.out)
  replace HRn := Lib.hid ((hbx.block _ (lt_of_block HRn.out)).trans HRn.out)
  replace HRl := Lib.hid ((hbx.block _ (lt_of_block HRl.out)).trans HRl.out)
  have HRh := Lib.hid rx
  clear hbx rx
  have rk := HRk.out
  have k0 := row_cell rk 0
  have k1 := row_cell rk 1
  have k2 := row_cell rk 2
  have k3 := row_cell rk 3
  simp at k0 k1 k2 k3
  clear rk
  have rr := HRn.out
  have nc0 := row_cell rr 0
  have nc1 := row_cell rr 1
  have nc2 := row_cell rr 2
  have nc3 := row_cell rr 3
  have nc4 := row_cell rr 4
  simp at nc0 nc1 nc2 nc3 nc4
  clear rr
  have rr := HRl.out
  have lc0 := row_cell rr 0
  have lc1 := row_cell rr 1
  have lc2 := row_cell rr 2
  have lc3 := row_cell rr 3
  have lc4 := row_cell rr 4
  simp at lc0 lc1 lc2 lc3 lc4
  clear rr
  have rr := HRh.out
  have hc0 := row_cell rr 0
  have hc1 := row_cell rr 1
  have hc2 := row_cell rr 2
  have hc3 := row_cell rr 3
  have hc4 := row_cell rr 4
  simp at hc0 hc1 hc2 hc3 hc4
  clear rr
  go_wp2_with (go_at_call 40; (with_reducible refine (HO1.out _).mono ?_); rintro e w6 ⟨rfl, hby⟩; (have rr := (hby.block _ (lt_of_block HRn.out)).trans HRn.out); (have nd0 := row_cell rr 0); (have nd1 := row_cell rr 1); (have nd2 := row_cell rr 2); (have nd3 := row_cell rr 3); (have nd4 := row_cell rr 4); (simp at nd0 nd1 nd2 nd3 nd4); clear rr; (have rr := (hby.block _ (lt_of_block HRh.out)).trans HRh.out); (have hd0 := row_cell rr 0); (have hd1 := row_cell rr 1); (have hd2 := row_cell rr 2); (have hd3 := row_cell rr 3); (have hd4 := row_cell rr 4); (simp at hd0 hd1 hd2 hd3 hd4); clear rr; (have rr := (hby.block _ (lt_of_block HRk.out)).trans HRk.out); (have kd2 := row_cell rr 2); (have kd3 := row_cell rr 3); (simp at kd2 kd3); clear rr)
  go_ret
  exact ⟨rfl, HB.out.trans (hby.mono HB.out.size)⟩
set_option maxRecDepth 100000 in
set_option maxHeartbeats 4000000 in
theorem wi_11 (nm lo hi s : ByteArray) (lk : Int) (w : World) (n1 n2 n3 : Bool) (nd : ByteArray) (np : Int) (l1 l2 l3 : Bool) (ld : ByteArray) (lp : Int) (h1 h2 h3 : Bool) (hd : ByteArray) (hp : Int) (ok1 ok2 ok3 : Bool) (c1 c2 : Int) (el : (lo.toList == []) = false) (eh : (hi.toList == []) = false) (hc : c1 ≤ 0)
    (hs : ∀ w, Calls Tryz.prog 70 #[.string s, .int .i64 0] w fun e w' => e = .returned (.tuple #[.agg #[.bool n1, .bool n2, .bool n3, .string nd, .int .i64 np], .bool ok1]) ∧ Below w.heap.size w w') (hl : ∀ w, Calls Tryz.prog 70 #[.string lo, .int .i64 0] w fun e w' => e = .returned (.tuple #[.agg #[.bool l1, .bool l2, .bool l3, .string ld, .int .i64 lp], .bool ok2]) ∧ Below w.heap.size w w') (hh : ∀ w, Calls Tryz.prog 70 #[.string hi, .int .i64 0] w fun e w' => e = .returned (.tuple #[.agg #[.bool h1, .bool h2, .bool h3, .string hd, .int .i64 hp], .bool ok3]) ∧ Below w.heap.size w w') (ho1 : ∀ w, Calls Tryz.prog 40 #[.agg #[.bool l1, .bool l2, .bool l3, .string ld, .int .i64 lp], .agg #[.bool n1, .bool n2, .bool n3, .string nd, .int .i64 np]] w fun e w' => e = .returned (.int .i64 c1) ∧ Below w.heap.size w w') (ho2 : ∀ w, Calls Tryz.prog 40 #[.agg #[.bool n1, .bool n2, .bool n3, .string nd, .int .i64 np], .agg #[.bool h1, .bool h2, .bool h3, .string hd, .int .i64 hp]] w fun e w' => e = .returned (.int .i64 c2) ∧ Below w.heap.size w w') :
    Calls Tryz.prog 72 #[.agg #[.string nm, .int .i64 lk, .string lo, .string hi], .string s] w fun e w' => e = .returned (.bool (decide (c2 ≤ 0))) ∧ Below w.heap.size w w' := by
  have HS := Lib.hid hs
  have HL := Lib.hid hl
  have HH := Lib.hid hh
  have HO1 := Lib.hid ho1
  have HO2 := Lib.hid ho2
  clear hs hl hh ho1 ho2
  go_enter Tryz.func72, Tryz.ntmps72
  go_upto_region 1 with fail
  obtain ⟨rk, hb⟩ := box1 w (.cells #[.string nm, .int .i64 lk, .string lo, .string hi] 48)
  generalize World.alloc w _ = w2 at rk hb ⊢
  have HB := Lib.hid hb
  have HRk := Lib.hid rk
  clear hb rk
  go_upto_region 2 with (go_at_call 70; (with_reducible refine (HS.out _).mono ?_); rintro e w1 ⟨rfl, hbx⟩)
  replace HB := Lib.hid (HB.out.trans (hbx.mono HB.out.size))
  replace HRk := Lib.hid ((hbx.block _ (lt_of_block HRk.out)).trans HRk.out)
  clear hbx
  obtain ⟨rx, hbx⟩ := box1 w1 (.cells #[.bool n1, .bool n2, .bool n3, .string nd, .int .i64 np] 61)
  generalize World.alloc w1 _ = w3 at rx hbx ⊢
  replace HB := Lib.hid (HB.out.trans (hbx.mono HB.out.size))
  replace HRk := Lib.hid ((hbx.block _ (lt_of_block HRk.out)).trans HRk.out)
  have HRn := Lib.hid rx
  clear hbx rx
  have rk := HRk.out
  have k0 := row_cell rk 0
  have k1 := row_cell rk 1
  have k2 := row_cell rk 2
  have k3 := row_cell rk 3
  simp at k0 k1 k2 k3
  clear rk
  go_upto_region 3 with (go_at_call 70; (with_reducible refine (HL.out _).mono ?_); rintro e w1 ⟨rfl, hbx⟩)
  replace HB := Lib.hid (HB.out.trans (hbx.mono HB.out.size))
  clear k0 k1 k2 k3
  replace HRk := Lib.hid ((hbx.block _ (lt_of_block HRk.out)).trans HRk.out)
  replace HRn := Lib.hid ((hbx.block _ (lt_of_block HRn.out)).trans HRn.out)
  clear hbx
  obtain ⟨rx, hbx⟩ := box1 w1 (.cells #[.bool l1, .bool l2, .bool l3, .string ld, .int .i64 lp] 61)
  generalize World.alloc w1 _ = w4 at rx hbx ⊢
  replace HB := Lib.hid (HB.out.trans (hbx.mono HB.out.size))
  replace HRk := Lib.hid ((hbx.block _ (lt_of_block HRk.out)).trans HRk.out)
  replace HRn := Lib.hid ((hbx.block _ (lt_of_block HRn.out)).trans HRn.out)
  have HRl := Lib.hid rx
  clear hbx rx
  have rk := HRk.out
  have k0 := row_cell rk 0
  have k1 := row_cell rk 1
  have k2 := row_cell rk 2
  have k3 := row_cell rk 3
  simp at k0 k1 k2 k3
  clear rk
  go_upto_region 4 with (go_at_call 70; (with_reducible refine (HH.out _).mono ?_); rintro e w1 ⟨rfl, hbx⟩)
  replace HB := Lib.hid (HB.out.trans (hbx.mono HB.out.size))
  clear k0 k1 k2 k3
  replace HRk := Lib.hid ((hbx.block _ (lt_of_block HRk.out)).trans HRk.out)
  replace HRn := Lib.hid ((hbx.block _ (lt_of_block HRn.out)).trans HRn.out)
  replace HRl := Lib.hid ((hbx.block _ (lt_of_block HRl.out)).trans HRl.out)
  clear hbx
  obtain ⟨rx, hbx⟩ := box1 w1 (.cells #[.bool h1, .bool h2, .bool h3, .string hd, .int .i64 hp] 61)
  generalize World.alloc w1 _ = w5 at rx hbx ⊢
  replace HB := Lib.hid (HB.out.trans (hbx.mono HB.out.size))
  replace HRk := Lib.hid ((hbx.block _ (lt_of_block HRk.out)).trans HRk.out)
  replace HRn := Lib.hid ((hbx.block _ (lt_of_block HRn.out)).trans HRn.out)
  replace HRl := Lib.hid ((hbx.block _ (lt_of_block HRl.out)).trans HRl.out)
  have HRh := Lib.hid rx
  clear hbx rx
  have rk := HRk.out
  have k0 := row_cell rk 0
  have k1 := row_cell rk 1
  have k2 := row_cell rk 2
  have k3 := row_cell rk 3
  simp at k0 k1 k2 k3
  clear rk
  have rr := HRn.out
  have nc0 := row_cell rr 0
  have nc1 := row_cell rr 1
  have nc2 := row_cell rr 2
  have nc3 := row_cell rr 3
  have nc4 := row_cell rr 4
  simp at nc0 nc1 nc2 nc3 nc4
  clear rr
  have rr := HRl.out
  have lc0 := row_cell rr 0
  have lc1 := row_cell rr 1
  have lc2 := row_cell rr 2
  have lc3 := row_cell rr 3
  have lc4 := row_cell rr 4
  simp at lc0 lc1 lc2 lc3 lc4
  clear rr
  have rr := HRh.out
  have hc0 := row_cell rr 0
  have hc1 := row_cell rr 1
  have hc2 := row_cell rr 2
  have hc3 := row_cell rr 3
  have hc4 := row_cell rr 4
  simp at hc0 hc1 hc2 hc3 hc4
  clear rr
  go_wp2_with (first | (go_at_call 40; (with_reducible refine (HO1.out _).mono ?_); rintro e w6 ⟨rfl, hby⟩; (have rr := (hby.block _ (lt_of_block HRn.out)).trans HRn.out); (have nd0 := row_cell rr 0); (have nd1 := row_cell rr 1); (have nd2 := row_cell rr 2); (have nd3 := row_cell rr 3); (have nd4 := row_cell rr 4); (simp at nd0 nd1 nd2 nd3 nd4); clear rr; (have rr := (hby.block _ (lt_of_block HRh.out)).trans HRh.out); (have hd0 := row_cell rr 0); (have hd1 := row_cell rr 1); (have hd2 := row_cell rr 2); (have hd3 := row_cell rr 3); (have hd4 := row_cell rr 4); (simp at hd0 hd1 hd2 hd3 hd4); clear rr; (have rr := (hby.block _ (lt_of_block HRk.out)).trans HRk.out); (have kd2 := row_cell rr 2); (have kd3 := row_cell rr 3); (simp at kd2 kd3); clear rr) | (go_at_call 40; (with_reducible refine (HO2.out _).mono ?_); rintro e w7 ⟨rfl, hbz⟩))
  go_ret
  exact ⟨rfl, (HB.out.trans (hby.mono HB.out.size)).trans (hbz.mono (HB.out.trans (hby.mono HB.out.size)).size)⟩
set_option maxRecDepth 100000 in
set_option maxHeartbeats 4000000 in
theorem wi_1x (nm lo hi s : ByteArray) (lk : Int) (w : World) (n1 n2 n3 : Bool) (nd : ByteArray) (np : Int) (l1 l2 l3 : Bool) (ld : ByteArray) (lp : Int) (h1 h2 h3 : Bool) (hd : ByteArray) (hp : Int) (ok1 ok2 ok3 : Bool) (c1 c2 : Int) (el : (lo.toList == []) = false) (hc : 0 < c1)
    (hs : ∀ w, Calls Tryz.prog 70 #[.string s, .int .i64 0] w fun e w' => e = .returned (.tuple #[.agg #[.bool n1, .bool n2, .bool n3, .string nd, .int .i64 np], .bool ok1]) ∧ Below w.heap.size w w') (hl : ∀ w, Calls Tryz.prog 70 #[.string lo, .int .i64 0] w fun e w' => e = .returned (.tuple #[.agg #[.bool l1, .bool l2, .bool l3, .string ld, .int .i64 lp], .bool ok2]) ∧ Below w.heap.size w w') (hh : ∀ w, Calls Tryz.prog 70 #[.string hi, .int .i64 0] w fun e w' => e = .returned (.tuple #[.agg #[.bool h1, .bool h2, .bool h3, .string hd, .int .i64 hp], .bool ok3]) ∧ Below w.heap.size w w') (ho1 : ∀ w, Calls Tryz.prog 40 #[.agg #[.bool l1, .bool l2, .bool l3, .string ld, .int .i64 lp], .agg #[.bool n1, .bool n2, .bool n3, .string nd, .int .i64 np]] w fun e w' => e = .returned (.int .i64 c1) ∧ Below w.heap.size w w') :
    Calls Tryz.prog 72 #[.agg #[.string nm, .int .i64 lk, .string lo, .string hi], .string s] w fun e w' => e = .returned (.bool false) ∧ Below w.heap.size w w' := by
  have HS := Lib.hid hs
  have HL := Lib.hid hl
  have HH := Lib.hid hh
  have HO1 := Lib.hid ho1
  clear hs hl hh ho1
  go_enter Tryz.func72, Tryz.ntmps72
  go_upto_region 1 with fail
  obtain ⟨rk, hb⟩ := box1 w (.cells #[.string nm, .int .i64 lk, .string lo, .string hi] 48)
  generalize World.alloc w _ = w2 at rk hb ⊢
  have HB := Lib.hid hb
  have HRk := Lib.hid rk
  clear hb rk
  go_upto_region 2 with (go_at_call 70; (with_reducible refine (HS.out _).mono ?_); rintro e w1 ⟨rfl, hbx⟩)
  replace HB := Lib.hid (HB.out.trans (hbx.mono HB.out.size))
  replace HRk := Lib.hid ((hbx.block _ (lt_of_block HRk.out)).trans HRk.out)
  clear hbx
  obtain ⟨rx, hbx⟩ := box1 w1 (.cells #[.bool n1, .bool n2, .bool n3, .string nd, .int .i64 np] 61)
  generalize World.alloc w1 _ = w3 at rx hbx ⊢
  replace HB := Lib.hid (HB.out.trans (hbx.mono HB.out.size))
  replace HRk := Lib.hid ((hbx.block _ (lt_of_block HRk.out)).trans HRk.out)
  have HRn := Lib.hid rx
  clear hbx rx
  have rk := HRk.out
  have k0 := row_cell rk 0
  have k1 := row_cell rk 1
  have k2 := row_cell rk 2
  have k3 := row_cell rk 3
  simp at k0 k1 k2 k3
  clear rk
  go_upto_region 3 with (go_at_call 70; (with_reducible refine (HL.out _).mono ?_); rintro e w1 ⟨rfl, hbx⟩)
  replace HB := Lib.hid (HB.out.trans (hbx.mono HB.out.size))
  clear k0 k1 k2 k3
  replace HRk := Lib.hid ((hbx.block _ (lt_of_block HRk.out)).trans HRk.out)
  replace HRn := Lib.hid ((hbx.block _ (lt_of_block HRn.out)).trans HRn.out)
  clear hbx
  obtain ⟨rx, hbx⟩ := box1 w1 (.cells #[.bool l1, .bool l2, .bool l3, .string ld, .int .i64 lp] 61)
  generalize World.alloc w1 _ = w4 at rx hbx ⊢
  replace HB := Lib.hid (HB.out.trans (hbx.mono HB.out.size))
  replace HRk := Lib.hid ((hbx.block _ (lt_of_block HRk.out)).trans HRk.out)
  replace HRn := Lib.hid ((hbx.block _ (lt_of_block HRn.out)).trans HRn.out)
  have HRl := Lib.hid rx
  clear hbx rx
  have rk := HRk.out
  have k0 := row_cell rk 0
  have k1 := row_cell rk 1
  have k2 := row_cell rk 2
  have k3 := row_cell rk 3
  simp at k0 k1 k2 k3
  clear rk
  go_upto_region 4 with (go_at_call 70; (with_reducible refine (HH.out _).mono ?_); rintro e w1 ⟨rfl, hbx⟩)
  replace HB := Lib.hid (HB.out.trans (hbx.mono HB.out.size))
  clear k0 k1 k2 k3
  replace HRk := Lib.hid ((hbx.block _ (lt_of_block HRk.out)).trans HRk.out)
  replace HRn := Lib.hid ((hbx.block _ (lt_of_block HRn.out)).trans HRn.out)
  replace HRl := Lib.hid ((hbx.block _ (lt_of_block HRl.out)).trans HRl.out)
  clear hbx
  obtain ⟨rx, hbx⟩ := box1 w1 (.cells #[.bool h1, .bool h2, .bool h3, .string hd, .int .i64 hp] 61)
  generalize World.alloc w1 _ = w5 at rx hbx ⊢
  replace HB := Lib.hid (HB.out.trans (hbx.mono HB.out.size))
  replace HRk := Lib.hid ((hbx.block _ (lt_of_block HRk.out)).trans HRk.out)
  replace HRn := Lib.hid ((hbx.block _ (lt_of_block HRn.out)).trans HRn.out)
  replace HRl := Lib.hid ((hbx.block _ (lt_of_block HRl.out)).trans HRl.out)
  have HRh := Lib.hid rx
  clear hbx rx
  have rk := HRk.out
  have k0 := row_cell rk 0
  have k1 := row_cell rk 1
  have k2 := row_cell rk 2
  have k3 := row_cell rk 3
  simp at k0 k1 k2 k3
  clear rk
  have rr := HRn.out
  have nc0 := row_cell rr 0
  have nc1 := row_cell rr 1
  have nc2 := row_cell rr 2
  have nc3 := row_cell rr 3
  have nc4 := row_cell rr 4
  simp at nc0 nc1 nc2 nc3 nc4
  clear rr
  have rr := HRl.out
  have lc0 := row_cell rr 0
  have lc1 := row_cell rr 1
  have lc2 := row_cell rr 2
  have lc3 := row_cell rr 3
  have lc4 := row_cell rr 4
  simp at lc0 lc1 lc2 lc3 lc4
  clear rr
  have rr := HRh.out
  have hc0 := row_cell rr 0
  have hc1 := row_cell rr 1
  have hc2 := row_cell rr 2
  have hc3 := row_cell rr 3
  have hc4 := row_cell rr 4
  simp at hc0 hc1 hc2 hc3 hc4
  clear rr
  go_wp2_with (go_at_call 40; (with_reducible refine (HO1.out _).mono ?_); rintro e w6 ⟨rfl, hby⟩; (have rr := (hby.block _ (lt_of_block HRn.out)).trans HRn.out); (have nd0 := row_cell rr 0); (have nd1 := row_cell rr 1); (have nd2 := row_cell rr 2); (have nd3 := row_cell rr 3); (have nd4 := row_cell rr 4); (simp at nd0 nd1 nd2 nd3 nd4); clear rr; (have rr := (hby.block _ (lt_of_block HRh.out)).trans HRh.out); (have hd0 := row_cell rr 0); (have hd1 := row_cell rr 1); (have hd2 := row_cell rr 2); (have hd3 := row_cell rr 3); (have hd4 := row_cell rr 4); (simp at hd0 hd1 hd2 hd3 hd4); clear rr; (have rr := (hby.block _ (lt_of_block HRk.out)).trans HRk.out); (have kd2 := row_cell rr 2); (have kd3 := row_cell rr 3); (simp at kd2 kd3); clear rr)
  go_ret
  exact ⟨rfl, HB.out.trans (hby.mono HB.out.size)⟩
end Go.Proofs.YtlhcejbimlilaaaGreatDoor
