/- The program's moments held against each other. -/
import Derived.Test.YtlhcejbimlilaaaGreatDoorVaW
set_option linter.unusedVariables false
set_option linter.unusedSimpArgs false
namespace Go.Tk
open Go Go.RowKit
theorem bfM_bd (a b : Mt) : -1 ≤ bfM a b ∧ bfM a b ≤ 1 := by
  have h : ∀ l m, -1 ≤ cmB l m ∧ cmB l m ≤ 1 := by
    intro l
    induction l with
    | nil => intro m; cases m <;> simp [cmB]
    | cons x l ih => intro m; cases m with
      | nil => simp [cmB]
      | cons y m => simp only [cmB]; split
                    · omega
                    · split
                      · omega
                      · exact ih m
  unfold bfM
  split
  · omega
  · split
    · omega
    · exact h _ _
theorem box4 (w : World) (a b c d : Obj) : ((((w.alloc a).alloc b).alloc c).alloc d).drew.heap[w.heap.size + 1]? = some b ∧ ((((w.alloc a).alloc b).alloc c).alloc d).drew.heap[w.heap.size + 2]? = some c ∧ ((((w.alloc a).alloc b).alloc c).alloc d).drew.heap[w.heap.size + 3]? = some d ∧ Below w.heap.size w ((((w.alloc a).alloc b).alloc c).alloc d).drew := by
  refine ⟨?_, ?_, ?_, below_drewN ((((Below.refl _ _).alloc (Nat.le_refl _) _).alloc (by simp) _).alloc (by simp; omega) _ |>.alloc (by simp; omega) _) 1⟩
  · show ((((w.heap.push a).push b).push c).push d)[w.heap.size + 1]? = some _
    rw [Array.getElem?_push, if_neg (by first | (simp; done) | (simp; omega)), Array.getElem?_push, if_neg (by first | (simp; done) | (simp; omega)), Array.getElem?_push, if_pos (by first | (simp; done) | (simp; omega))]
  · show ((((w.heap.push a).push b).push c).push d)[w.heap.size + 2]? = some _
    rw [Array.getElem?_push, if_neg (by first | (simp; done) | (simp; omega)), Array.getElem?_push, if_pos (by first | (simp; done) | (simp; omega))]
  · show ((((w.heap.push a).push b).push c).push d)[w.heap.size + 3]? = some _
    rw [Array.getElem?_push, if_pos (by first | (simp; done) | (simp; omega))]
structure MtB (m : Mt) : Prop where
  s1 : -50000000000000000 ≤ m.sec
  s2 : m.sec ≤ 50000000000000000
  z1 : -100000 ≤ m.zone
  z2 : m.zone ≤ 100000
end Go.Tk
namespace Go.Proofs.YtlhcejbimlilaaaGreatDoor
open Go.RowKit Go.Tk
set_option maxHeartbeats 2000000 in
theorem mag_same (t u : Mt) (w : World) (ht : MtB t) (hu : MtB u) (hz : t.zoned = u.zoned) :
    Calls Tryz.prog 83 #[t.val, u.val] w fun e w' => e = .returned (.tuple #[.int .i64 (agM t u).1, .bool (agM t u).2]) ∧ Below w.heap.size w w' := by
  have ag : agM t u = (bfM (utM t) (utM u), true) := by unfold agM; rw [if_pos hz]
  rw [ag]
  dsimp only
  have h1 := fun w => utc_calls t w ⟨by have := ht.s1; omega, by have := ht.s2; omega⟩ ⟨ht.z1, ht.z2⟩
  have h2 := fun w => utc_calls u w ⟨by have := hu.s1; omega, by have := hu.s2; omega⟩ ⟨hu.z1, hu.z2⟩
  have h3 := fun w => before_calls (utM t) (utM u) w
  obtain ⟨T, hT⟩ : ∃ T, T = utM t := ⟨_, rfl⟩
  obtain ⟨U, hU⟩ : ∃ U, U = utM u := ⟨_, rfl⟩
  rw [← hT] at h1 h3 ⊢
  rw [← hU] at h2 h3 ⊢
  obtain ⟨B, hB⟩ : ∃ B, B = bfM T U := ⟨_, rfl⟩
  rw [← hB] at h3 ⊢
  clear hT hU hB ag
  obtain ⟨s1, p1, z1, n1, q1⟩ := t
  obtain ⟨s2, p2, z2, n2, q2⟩ := u
  obtain ⟨s3, p3, z3, n3, q3⟩ := T
  obtain ⟨s4, p4, z4, n4, q4⟩ := U
  unfold Mt.val at h1 h2 h3 ⊢
  dsimp only at h1 h2 h3 hz ⊢
  subst hz
  have H1 := Lib.hid h1
  have H2 := Lib.hid h2
  have H3 := Lib.hid h3
  clear h1 h2 h3 ht hu
  go_enter Tryz.func83, Tryz.ntmps83
  go_upto_region 2 with fail
  all_goals
    obtain ⟨r1, r2, hb⟩ := box2 w (.cells #[.int .i64 s1, .string ⟨p1.toArray⟩, .bool z1, .int .i64 n1, .string ⟨q1.toArray⟩] 76) (.cells #[.int .i64 s2, .string ⟨p2.toArray⟩, .bool z1, .int .i64 n2, .string ⟨q2.toArray⟩] 76)
    generalize World.alloc (World.alloc w _) _ = w2 at r1 r2 hb ⊢
    have q1 := Lw.row r1
    have q2 := Lw.row r2
    have x0 := fun x => (row_cell (q1 x) 0)
    have x1 := fun x => (row_cell (q1 x) 1)
    have x2 := fun x => (row_cell (q1 x) 2)
    have x3 := fun x => (row_cell (q1 x) 3)
    have x4 := fun x => (row_cell (q1 x) 4)
    have y0 := fun x => (row_cell (q2 x) 0)
    have y1 := fun x => (row_cell (q2 x) 1)
    have y2 := fun x => (row_cell (q2 x) 2)
    have y3 := fun x => (row_cell (q2 x) 3)
    have y4 := fun x => (row_cell (q2 x) 4)
    simp at x0 x1 x2 x3 x4 y0 y1 y2 y3 y4
    clear q1 q2 r1 r2
    refine wp_region_lw (by kernel_rfl) (by kernel_rfl) ?_
    repeat (go_big_quiet_step (first | exact rfl | (go_at_call 102; with_reducible exact lw_call (H1.out _)) | (go_at_call 102; with_reducible exact lw_call (H2.out _)) | (go_at_call 123; with_reducible exact lw_call (H3.out _))))
    refine wpQuiet_nil ?_
    rintro ⟨w3, hb3⟩
    dsimp only
    have hb4 := hb.trans (hb3.mono hb.size)
    clear x0 x1 x2 x3 x4 y0 y1 y2 y3 y4 hb hb3
    go_wp2_with fail
    go_ret2
    exact ⟨rfl, hb4⟩
set_option maxHeartbeats 2000000 in
theorem mag_mix (t u : Mt) (w : World) (ht : MtB t) (hu : MtB u) (hz1 : t.zoned = false) (hz2 : u.zoned = true) :
    Calls Tryz.prog 83 #[t.val, u.val] w fun e w' => e = .returned (.tuple #[.int .i64 (mxM t u).1, .bool (mxM t u).2]) ∧ Below w.heap.size w w' := by
  have h1 := fun w => utc_calls { t with zone := 840 } w ⟨by have := ht.s1; show _ ≤ t.sec; omega, by have := ht.s2; show t.sec ≤ _; omega⟩ ⟨by show -100000 ≤ (840 : Int); omega, by show (840 : Int) ≤ 100000; omega⟩
  have h5 := fun w => utc_calls { t with zone := -840 } w ⟨by have := ht.s1; show _ ≤ t.sec; omega, by have := ht.s2; show t.sec ≤ _; omega⟩ ⟨by show -100000 ≤ (-840 : Int); omega, by show (-840 : Int) ≤ 100000; omega⟩
  have h2 := fun w => utc_calls u w ⟨by have := hu.s1; omega, by have := hu.s2; omega⟩ ⟨hu.z1, hu.z2⟩
  have hmx : mxM t u = if bfM (utM { t with zone := 840 }) (utM u) = 0 ∨ bfM (utM { t with zone := 840 }) (utM u) ≠ bfM (utM { t with zone := -840 }) (utM u) then (0, false) else (bfM (utM { t with zone := 840 }) (utM u), true) := rfl
  have h3 := fun w => before_calls (utM { t with zone := 840 }) (utM u) w
  have h4 := fun w => before_calls (utM { t with zone := -840 }) (utM u) w
  have b1 := bfM_bd (utM { t with zone := 840 }) (utM u)
  have b2 := bfM_bd (utM { t with zone := -840 }) (utM u)
  obtain ⟨E, hE⟩ : ∃ T, T = utM { t with zone := 840 } := ⟨_, rfl⟩
  obtain ⟨W, hW⟩ : ∃ T, T = utM { t with zone := -840 } := ⟨_, rfl⟩
  obtain ⟨U, hU⟩ : ∃ U, U = utM u := ⟨_, rfl⟩
  rw [← hE] at h1 h3 b1 hmx
  rw [← hW] at h5 h4 b2 hmx
  rw [← hU] at h2 h3 h4 b1 b2 hmx
  obtain ⟨x, hx⟩ : ∃ B, B = bfM E U := ⟨_, rfl⟩
  obtain ⟨y, hy⟩ : ∃ B, B = bfM W U := ⟨_, rfl⟩
  rw [← hx] at h3 b1 hmx
  rw [← hy] at h4 b2 hmx
  rw [hmx]
  clear hE hW hU hx hy hmx
  obtain ⟨s1, p1, z1, n1, q1⟩ := t
  obtain ⟨s2, p2, z2, n2, q2⟩ := u
  obtain ⟨s3, p3, z3, n3, q3⟩ := E
  obtain ⟨s4, p4, z4, n4, q4⟩ := U
  obtain ⟨s5, p5, z5, n5, q5⟩ := W
  dsimp only at hz1 hz2
  subst hz1
  subst hz2
  unfold Mt.val at h1 h2 h3 h4 h5 ⊢
  dsimp only at h1 h2 h3 h4 h5 ⊢
  obtain ⟨R, hR⟩ : ∃ R : Int × Bool, R = if x = 0 ∨ x ≠ y then (0, false) else (x, true) := ⟨_, rfl⟩
  rw [← hR]
  have HR := Lib.hid hR
  have H1 := Lib.hid h1
  have H2 := Lib.hid h2
  have H3 := Lib.hid h3
  have H4 := Lib.hid h4
  have H5 := Lib.hid h5
  clear h1 h2 h3 h4 h5 ht hu hR
  go_enter Tryz.func83, Tryz.ntmps83
  go_upto_region 6 with fail
  go_region
  · obtain ⟨rb, rc, rd, hb⟩ := box4 w (.cells #[.int .i64 s1, .string ⟨p1.toArray⟩, .bool false, .int .i64 n1, .string ⟨q1.toArray⟩] 76) (.cells #[.int .i64 s2, .string ⟨p2.toArray⟩, .bool true, .int .i64 n2, .string ⟨q2.toArray⟩] 76) (.cells #[.int .i64 s1, .string ⟨p1.toArray⟩, .bool false, .int .i64 n1, .string ⟨q1.toArray⟩] 76) (.cells #[.int .i64 s1, .string ⟨p1.toArray⟩, .bool false, .int .i64 n1, .string ⟨q1.toArray⟩] 76)
    generalize World.drew _ = w4 at rb rc rd hb ⊢
    have c4 : ∀ i, w4.frozen? ⟨w.heap.size + 2, i, none⟩ = false := fun i => frozen_of_row _ _ _ _ _ rc
    have d4 : ∀ i, w4.frozen? ⟨w.heap.size + 3, i, none⟩ = false := fun i => frozen_of_row _ _ _ _ _ rd
    have c3 := row_cell rc 3
    have d3 := row_cell rd 3
    simp at c3 d3
    have se := set_row (i := 3) (v := .int .i64 840) rc rfl
    have so := set_row_ne (g := w.heap.size + 2) (i := 3) (v := .int .i64 840) rd (by omega)
    have sb := set_row_ne (g := w.heap.size + 2) (i := 3) (v := .int .i64 840) rb (by omega)
    have te := set_row_ne (g := w.heap.size + 3) (i := 3) (v := .int .i64 (-840)) se (by omega)
    have tw := set_row (i := 3) (v := .int .i64 (-840)) so rfl
    have tb := set_row_ne (g := w.heap.size + 3) (i := 3) (v := .int .i64 (-840)) sb (by omega)
    have hb2 := (hb.setCell (p := ⟨w.heap.size + 2, 3, none⟩) (by simp) (.int .i64 840)).setCell (p := ⟨w.heap.size + 3, 3, none⟩) (by simp) (.int .i64 (-840))
    rw [show w.heap.size + 1 + 1 + 1 = w.heap.size + 3 from rfl, show w.heap.size + 1 + 1 = w.heap.size + 2 from rfl]
    clear rb rc rd hb se so sb
    go_upto_region 8 with fail
    generalize World.setCell (World.setCell w4 _ _) _ _ = w5 at te tw tb hb2 ⊢
    clear c3 d3 c4 d4
    have q1 := Lw.row te
    have q2 := Lw.row tw
    have q3 := Lw.row tb
    have x0 := fun x => (row_cell (q1 x) 0)
    have x1 := fun x => (row_cell (q1 x) 1)
    have x2 := fun x => (row_cell (q1 x) 2)
    have x3 := fun x => (row_cell (q1 x) 3)
    have x4 := fun x => (row_cell (q1 x) 4)
    have y0 := fun x => (row_cell (q2 x) 0)
    have y1 := fun x => (row_cell (q2 x) 1)
    have y2 := fun x => (row_cell (q2 x) 2)
    have y3 := fun x => (row_cell (q2 x) 3)
    have y4 := fun x => (row_cell (q2 x) 4)
    have z0 := fun x => (row_cell (q3 x) 0)
    have z1 := fun x => (row_cell (q3 x) 1)
    have z2 := fun x => (row_cell (q3 x) 2)
    have z3 := fun x => (row_cell (q3 x) 3)
    have z4 := fun x => (row_cell (q3 x) 4)
    simp at x0 x1 x2 x3 x4 y0 y1 y2 y3 y4 z0 z1 z2 z3 z4
    clear q1 q2 q3 te tw tb
    refine wp_region_lw (by kernel_rfl) (by kernel_rfl) ?_
    repeat (go_big_quiet_step (first | exact rfl | (go_at_call 102; with_reducible exact lw_call (H1.out _)) | (go_at_call 102; with_reducible exact lw_call (H2.out _)) | (go_at_call 102; with_reducible exact lw_call (H5.out _)) | (go_at_call 123; with_reducible exact lw_call (H3.out _)) | (go_at_call 123; with_reducible exact lw_call (H4.out _))))
    refine wpQuiet_nil ?_
    rintro ⟨w6, hb6⟩
    dsimp only
    have hb7 := hb2.trans (hb6.mono hb2.size)
    clear x0 x1 x2 x3 x4 y0 y1 y2 y3 y4 z0 z1 z2 z3 z4 hb2 hb6
    have hr := HR.out
    by_cases g0 : x = 0
    · rw [if_pos (.inl g0)] at hr
      subst g0
      have HR2 := Lib.hid hr
      clear hr HR
      go_wp2_with fail
      go_ret2
      exact ⟨ret_p HR2.out, hb7⟩
    have b0 : (x == 0) = false := by rw [beq_eq_false_iff_ne]; exact g0
    by_cases g1 : x = y
    · rw [if_neg (by intro h; rcases h with h | h; exact g0 h; exact h g1)] at hr
      have bn : (x != y) = false := by rw [bne_eq_false_iff_eq]; exact g1
      have HR2 := Lib.hid hr
      clear hr HR g1 g0
      go_wp2_with fail
      go_ret2
      exact ⟨ret_p HR2.out, hb7⟩
    · rw [if_pos (.inr g1)] at hr
      have bn : (x != y) = true := by rw [bne_iff_ne]; exact g1
      have HR2 := Lib.hid hr
      clear hr HR g1 g0
      go_wp2_with fail
      go_ret2
      exact ⟨ret_p HR2.out, hb7⟩
  · obtain ⟨rb, rc, rd, hb⟩ := box4 w (.cells #[.int .i64 s1, .string ⟨p1.toArray⟩, .bool false, .int .i64 n1, .string ⟨q1.toArray⟩] 76) (.cells #[.int .i64 s2, .string ⟨p2.toArray⟩, .bool true, .int .i64 n2, .string ⟨q2.toArray⟩] 76) (.cells #[.int .i64 s1, .string ⟨p1.toArray⟩, .bool false, .int .i64 n1, .string ⟨q1.toArray⟩] 76) (.cells #[.int .i64 s1, .string ⟨p1.toArray⟩, .bool false, .int .i64 n1, .string ⟨q1.toArray⟩] 76)
    generalize World.drew _ = w4 at rb rc rd hb ⊢
    have c4 : ∀ i, w4.frozen? ⟨w.heap.size + 2, i, none⟩ = false := fun i => frozen_of_row _ _ _ _ _ rc
    have d4 : ∀ i, w4.frozen? ⟨w.heap.size + 3, i, none⟩ = false := fun i => frozen_of_row _ _ _ _ _ rd
    have c3 := row_cell rc 3
    have d3 := row_cell rd 3
    simp at c3 d3
    have se := set_row (i := 3) (v := .int .i64 840) rd rfl
    have so := set_row_ne (g := w.heap.size + 3) (i := 3) (v := .int .i64 840) rc (by omega)
    have sb := set_row_ne (g := w.heap.size + 3) (i := 3) (v := .int .i64 840) rb (by omega)
    have te := set_row_ne (g := w.heap.size + 2) (i := 3) (v := .int .i64 (-840)) se (by omega)
    have tw := set_row (i := 3) (v := .int .i64 (-840)) so rfl
    have tb := set_row_ne (g := w.heap.size + 2) (i := 3) (v := .int .i64 (-840)) sb (by omega)
    have hb2 := (hb.setCell (p := ⟨w.heap.size + 3, 3, none⟩) (by simp) (.int .i64 840)).setCell (p := ⟨w.heap.size + 2, 3, none⟩) (by simp) (.int .i64 (-840))
    rw [show w.heap.size + 1 + 1 + 1 = w.heap.size + 3 from rfl, show w.heap.size + 1 + 1 = w.heap.size + 2 from rfl]
    clear rb rc rd hb se so sb
    go_upto_region 8 with fail
    generalize World.setCell (World.setCell w4 _ _) _ _ = w5 at te tw tb hb2 ⊢
    clear c3 d3 c4 d4
    have q1 := Lw.row te
    have q2 := Lw.row tw
    have q3 := Lw.row tb
    have x0 := fun x => (row_cell (q1 x) 0)
    have x1 := fun x => (row_cell (q1 x) 1)
    have x2 := fun x => (row_cell (q1 x) 2)
    have x3 := fun x => (row_cell (q1 x) 3)
    have x4 := fun x => (row_cell (q1 x) 4)
    have y0 := fun x => (row_cell (q2 x) 0)
    have y1 := fun x => (row_cell (q2 x) 1)
    have y2 := fun x => (row_cell (q2 x) 2)
    have y3 := fun x => (row_cell (q2 x) 3)
    have y4 := fun x => (row_cell (q2 x) 4)
    have z0 := fun x => (row_cell (q3 x) 0)
    have z1 := fun x => (row_cell (q3 x) 1)
    have z2 := fun x => (row_cell (q3 x) 2)
    have z3 := fun x => (row_cell (q3 x) 3)
    have z4 := fun x => (row_cell (q3 x) 4)
    simp at x0 x1 x2 x3 x4 y0 y1 y2 y3 y4 z0 z1 z2 z3 z4
    clear q1 q2 q3 te tw tb
    refine wp_region_lw (by kernel_rfl) (by kernel_rfl) ?_
    repeat (go_big_quiet_step (first | exact rfl | (go_at_call 102; with_reducible exact lw_call (H1.out _)) | (go_at_call 102; with_reducible exact lw_call (H2.out _)) | (go_at_call 102; with_reducible exact lw_call (H5.out _)) | (go_at_call 123; with_reducible exact lw_call (H3.out _)) | (go_at_call 123; with_reducible exact lw_call (H4.out _))))
    refine wpQuiet_nil ?_
    rintro ⟨w6, hb6⟩
    dsimp only
    have hb7 := hb2.trans (hb6.mono hb2.size)
    clear x0 x1 x2 x3 x4 y0 y1 y2 y3 y4 z0 z1 z2 z3 z4 hb2 hb6
    have hr := HR.out
    by_cases g0 : x = 0
    · rw [if_pos (.inl g0)] at hr
      subst g0
      have HR2 := Lib.hid hr
      clear hr HR
      go_wp2_with fail
      go_ret2
      exact ⟨ret_p HR2.out, hb7⟩
    have b0 : (x == 0) = false := by rw [beq_eq_false_iff_ne]; exact g0
    by_cases g1 : x = y
    · rw [if_neg (by intro h; rcases h with h | h; exact g0 h; exact h g1)] at hr
      have bn : (x != y) = false := by rw [bne_eq_false_iff_eq]; exact g1
      have HR2 := Lib.hid hr
      clear hr HR g1 g0
      go_wp2_with fail
      go_ret2
      exact ⟨ret_p HR2.out, hb7⟩
    · rw [if_pos (.inr g1)] at hr
      have bn : (x != y) = true := by rw [bne_iff_ne]; exact g1
      have HR2 := Lib.hid hr
      clear hr HR g1 g0
      go_wp2_with fail
      go_ret2
      exact ⟨ret_p HR2.out, hb7⟩
set_option maxHeartbeats 2000000 in
theorem mag_calls (t u : Mt) (w : World) (ht : MtB t) (hu : MtB u) :
    Calls Tryz.prog 83 #[t.val, u.val] w fun e w' => e = .returned (.tuple #[.int .i64 (agM t u).1, .bool (agM t u).2]) ∧ Below w.heap.size w w' := by
  by_cases hz : t.zoned = u.zoned
  · exact mag_same t u w ht hu hz
  · cases h1 : t.zoned with
    | false =>
      have h2 : u.zoned = true := by cases h : u.zoned; exact absurd (h1.trans h.symm) hz; rfl
      have ag : agM t u = mxM t u := by unfold agM; rw [if_neg hz, if_neg (by rw [h1]; simp)]
      rw [ag]
      exact mag_mix t u w ht hu h1 h2
    | true =>
      have h2 : u.zoned = false := by cases h : u.zoned; rfl; exact absurd (h1.trans h.symm) hz
      have ag : agM t u = (-(mxM u t).1, (mxM u t).2) := by unfold agM; rw [if_neg hz, if_pos h1]
      rw [ag]
      have hm := fun w => mag_mix u t w hu ht h2 h1
      have hb : -1 ≤ (mxM u t).1 ∧ (mxM u t).1 ≤ 1 := by
        unfold mxM
        split
        · omega
        · exact bfM_bd _ _
      obtain ⟨x, hx⟩ : ∃ x, x = (mxM u t).1 := ⟨_, rfl⟩
      obtain ⟨y, hy⟩ : ∃ x, x = (mxM u t).2 := ⟨_, rfl⟩
      rw [← hx, ← hy] at hm
      rw [← hx] at hb
      dsimp only
      rw [← hx, ← hy]
      clear ag hx hy ht hu
      obtain ⟨s1, p1, z1, n1, q1⟩ := t
      obtain ⟨s2, p2, z2, n2, q2⟩ := u
      dsimp only at h1 h2
      subst h1
      subst h2
      unfold Mt.val at hm ⊢
      dsimp only at hm ⊢
      obtain ⟨hb1, hb2⟩ := hb
      have HM := Lib.hid hm
      clear hm hz
      go_enter Tryz.func83, Tryz.ntmps83
      go_wp2_with (go_at_call 83; (with_reducible refine (HM.out _).mono ?_); rintro e w3 ⟨rfl, hb3⟩)
      go_ret2
      exact ⟨rfl, (((Below.refl _ _).alloc (Nat.le_refl _) _).alloc (by simp) _).trans (hb3.mono (by simp; omega))⟩
end Go.Proofs.YtlhcejbimlilaaaGreatDoor
