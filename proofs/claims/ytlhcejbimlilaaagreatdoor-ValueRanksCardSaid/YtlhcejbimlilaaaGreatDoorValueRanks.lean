/- ValueRanks: the walk (written by gen_vranks.py). -/
import Derived.Test.YtlhcejbimlilaaaGreatDoorVbO
import Derived.Test.YtlhcejbimlilaaaGreatDoorVbK
set_option linter.unusedVariables false
set_option linter.unusedSimpArgs false
namespace Go.Proofs.YtlhcejbimlilaaaGreatDoor
open Go.RowKit Go.Tk
theorem agN_rng (n m : Nm) : -1 ≤ (agN n m).1 ∧ (agN n m).1 ≤ 1 := by
  unfold agN
  split
  · simp
  split
  · have := gd_cmZ.rng (rkN n) (rkN m); dsimp only; omega
  · rename_i h
    have := (gd_rk (rkN n) (by omega)).rng n m
    unfold rgN at this
    dsimp only; omega
theorem mxM_rng (t u : Mt) : -1 ≤ (mxM t u).1 ∧ (mxM t u).1 ≤ 1 := by
  rw [mxM_K]
  split
  · simp
  · have := gd_bfK.rng (kL t) (kS u); dsimp only; omega
theorem agM_rng (t u : Mt) : -1 ≤ (agM t u).1 ∧ (agM t u).1 ≤ 1 := by
  unfold agM
  have h1 := mxM_rng t u
  have h2 := mxM_rng u t
  split
  · rw [bfM_K]; have := gd_bfK.rng (kyM (utM t)) (kyM (utM u)); dsimp only; omega
  split
  · dsimp only; omega
  · exact h1
theorem cmB_rng2 (l m : List UInt8) : -1 ≤ cmB l m ∧ cmB l m ≤ 1 := by have := cmB_rng l m; omega
theorem cmpE_rng (a b : Tm) : -1 ≤ (cmpE a b).1 ∧ (cmpE a b).1 ≤ 1 := by
  unfold cmpE
  split
  · unfold cmpF
    split
    · exact agN_rng _ _
    split
    · exact cmB_rng2 _ _
    split
    · exact cmB_rng2 _ _
    split
    · exact cmB_rng2 _ _
    split
    · exact agM_rng _ _
    split
    · exact agM_rng _ _
    split
    · exact agM_rng _ _
    · exact cmB_rng2 _ _
  · simp
theorem box3 (w : World) (o1 o2 o3 : Obj) : (((w.alloc o1).alloc o2).alloc o3).heap[w.heap.size]? = some o1 ∧ (((w.alloc o1).alloc o2).alloc o3).heap[w.heap.size + 1]? = some o2 ∧ (((w.alloc o1).alloc o2).alloc o3).heap[w.heap.size + 1 + 1]? = some o3 ∧ Below w.heap.size w (((w.alloc o1).alloc o2).alloc o3) := by
  obtain ⟨h1, h2, hb⟩ := box2 w o1 o2
  have h3 := heap_alloc_new ((w.alloc o1).alloc o2) o3
  refine ⟨(Below.heap_alloc _ _ _ (by simp; omega)).trans h1, (Below.heap_alloc _ _ _ (by simp)).trans h2, by simpa using h3, hb.alloc (by simp; omega) _⟩
set_option maxHeartbeats 4000000 in
theorem ranks_in (w : World) (a b c : Tm) (ha : a.tx.size ≤ 9223372036854775807) (hb : b.tx.size ≤ 9223372036854775807) (hc : c.tx.size ≤ 9223372036854775807) (hpw : Pow w) :
    Calls Tryz.prog 6 #[a.val, b.val, c.val] w fun e w' => e = .returned (.bool true) ∧ Below w.heap.size w w' := by
  have c1 := fun w => cmp_calls a b w ha hb
  have c2 := fun w => cmp_calls b c w hb hc
  have c3 := fun w => cmp_calls a c w ha hc
  have c4 := fun w => cmp_calls b a w hb ha
  rw [cmpE_neg a b] at c4
  have htr := cmpE_tr (a := a) (b := b) (c := c)
  have hrg := cmpE_rng a b
  obtain ⟨⟨x, p⟩, hx⟩ : ∃ x, x = cmpE a b := ⟨_, rfl⟩
  obtain ⟨⟨y, q⟩, hy⟩ : ∃ x, x = cmpE b c := ⟨_, rfl⟩
  obtain ⟨⟨z, r⟩, hz⟩ : ∃ x, x = cmpE a c := ⟨_, rfl⟩
  rw [← hx] at c1 c4 htr hrg
  rw [← hy] at c2 htr
  rw [← hz] at c3 htr
  dsimp only at c1 c2 c3 c4 htr hrg
  clear hx hy hz ha hb hc
  obtain ⟨ka, xa, ta, la⟩ := a
  obtain ⟨kb, xb, tb, lb⟩ := b
  obtain ⟨kc, xc, tc, lc⟩ := c
  unfold Tm.val at c1 c2 c3 c4
  unfold Tm.val
  dsimp only at c1 c2 c3 c4 ⊢
  have C1 := Lib.hid c1
  have C2 := Lib.hid c2
  have C3 := Lib.hid c3
  have C4 := Lib.hid c4
  have HP := Lib.hid hpw
  have HT := Lib.hid htr
  have hw1 : IntKind.i64.wrap (-x) = -x := by
    have h3 : x = -1 ∨ x = 0 ∨ x = 1 := by omega
    rcases h3 with rfl | rfl | rfl <;> decide
  clear c1 c2 c3 c4 hpw htr
  go_enter Tryz.func6, Tryz.ntmps6
  go_upto_region 1 with fail
  obtain ⟨ra, rb, rc, hbA⟩ := box3 w (.cells #[.int .i64 ka, .string xa, .string ta, .string la] 33) (.cells #[.int .i64 kb, .string xb, .string tb, .string lb] 33) (.cells #[.int .i64 kc, .string xc, .string tc, .string lc] 33)
  generalize World.alloc (World.alloc (World.alloc w _) _) _ = w0 at ra rb rc hbA ⊢
  have HP0 := Lib.hid (HP.out.below hbA)
  have hwk : Calls Tryz.prog 21 #[] w0 fun e w' => e = .returned (.bool true) ∧ Below w0.heap.size w0 w' := works_calls w0 HP0.out
  have HWK := Lib.hid hwk
  clear hwk
  go_upto_region 3 with (go_at_call 21; (with_reducible refine (HWK.out).mono ?_); rintro e w1 ⟨rfl, hb0⟩)
  replace ra := (hb0.block _ (lt_of_block ra)).trans ra
  replace rb := (hb0.block _ (lt_of_block rb)).trans rb
  replace rc := (hb0.block _ (lt_of_block rc)).trans rc
  have hq0 := hbA.trans (hb0.mono hbA.size)
  have x0_1 := row_cell ra 0
  have x1_1 := row_cell ra 1
  have x2_1 := row_cell ra 2
  have x3_1 := row_cell ra 3
  have y0_1 := row_cell rb 0
  have y1_1 := row_cell rb 1
  have y2_1 := row_cell rb 2
  have y3_1 := row_cell rb 3
  have z0_1 := row_cell rc 0
  have z1_1 := row_cell rc 1
  have z2_1 := row_cell rc 2
  have z3_1 := row_cell rc 3
  simp at x0_1 x1_1 x2_1 x3_1 y0_1 y1_1 y2_1 y3_1 z0_1 z1_1 z2_1 z3_1
  go_upto_region 4 with (go_at_call 17; (with_reducible refine (C1.out _).mono ?_); rintro e w2 ⟨rfl, hb1⟩)
  clear x0_1 x1_1 x2_1 x3_1 y0_1 y1_1 y2_1 y3_1 z0_1 z1_1 z2_1 z3_1
  replace ra := (hb1.block _ (lt_of_block ra)).trans ra
  replace rb := (hb1.block _ (lt_of_block rb)).trans rb
  replace rc := (hb1.block _ (lt_of_block rc)).trans rc
  have hq1 := hq0.trans (hb1.mono hq0.size)
  have x0_2 := row_cell ra 0
  have x1_2 := row_cell ra 1
  have x2_2 := row_cell ra 2
  have x3_2 := row_cell ra 3
  have y0_2 := row_cell rb 0
  have y1_2 := row_cell rb 1
  have y2_2 := row_cell rb 2
  have y3_2 := row_cell rb 3
  have z0_2 := row_cell rc 0
  have z1_2 := row_cell rc 1
  have z2_2 := row_cell rc 2
  have z3_2 := row_cell rc 3
  simp at x0_2 x1_2 x2_2 x3_2 y0_2 y1_2 y2_2 y3_2 z0_2 z1_2 z2_2 z3_2
  go_upto_region 5 with (go_at_call 17; (with_reducible refine (C2.out _).mono ?_); rintro e w3 ⟨rfl, hb2⟩)
  clear x0_2 x1_2 x2_2 x3_2 y0_2 y1_2 y2_2 y3_2 z0_2 z1_2 z2_2 z3_2
  replace ra := (hb2.block _ (lt_of_block ra)).trans ra
  replace rb := (hb2.block _ (lt_of_block rb)).trans rb
  replace rc := (hb2.block _ (lt_of_block rc)).trans rc
  have hq2 := hq1.trans (hb2.mono hq1.size)
  have x0_3 := row_cell ra 0
  have x1_3 := row_cell ra 1
  have x2_3 := row_cell ra 2
  have x3_3 := row_cell ra 3
  have y0_3 := row_cell rb 0
  have y1_3 := row_cell rb 1
  have y2_3 := row_cell rb 2
  have y3_3 := row_cell rb 3
  have z0_3 := row_cell rc 0
  have z1_3 := row_cell rc 1
  have z2_3 := row_cell rc 2
  have z3_3 := row_cell rc 3
  simp at x0_3 x1_3 x2_3 x3_3 y0_3 y1_3 y2_3 y3_3 z0_3 z1_3 z2_3 z3_3
  go_upto_region 6 with (go_at_call 17; (with_reducible refine (C3.out _).mono ?_); rintro e w4 ⟨rfl, hb3⟩)
  clear x0_3 x1_3 x2_3 x3_3 y0_3 y1_3 y2_3 y3_3 z0_3 z1_3 z2_3 z3_3
  replace ra := (hb3.block _ (lt_of_block ra)).trans ra
  replace rb := (hb3.block _ (lt_of_block rb)).trans rb
  replace rc := (hb3.block _ (lt_of_block rc)).trans rc
  have hq3 := hq2.trans (hb3.mono hq2.size)
  have x0_4 := row_cell ra 0
  have x1_4 := row_cell ra 1
  have x2_4 := row_cell ra 2
  have x3_4 := row_cell ra 3
  have y0_4 := row_cell rb 0
  have y1_4 := row_cell rb 1
  have y2_4 := row_cell rb 2
  have y3_4 := row_cell rb 3
  have z0_4 := row_cell rc 0
  have z1_4 := row_cell rc 1
  have z2_4 := row_cell rc 2
  have z3_4 := row_cell rc 3
  simp at x0_4 x1_4 x2_4 x3_4 y0_4 y1_4 y2_4 y3_4 z0_4 z1_4 z2_4 z3_4
  go_upto_region 7 with (go_at_call 17; (with_reducible refine (C4.out _).mono ?_); rintro e w5 ⟨rfl, hb4⟩)
  clear x0_4 x1_4 x2_4 x3_4 y0_4 y1_4 y2_4 y3_4 z0_4 z1_4 z2_4 z3_4
  replace ra := (hb4.block _ (lt_of_block ra)).trans ra
  replace rb := (hb4.block _ (lt_of_block rb)).trans rb
  replace rc := (hb4.block _ (lt_of_block rc)).trans rc
  have hq4 := hq3.trans (hb4.mono hq3.size)
  clear ra rb rc hbA hb0 hb1 hb2 hb3 hb4 hq0 hq1 hq2 hq3 hrg
  have HQ := Lib.hid hq4
  clear hq4
  cases p with
  | false =>
    clear HT
    go_wp2_with fail
    go_ret
    exact ⟨rfl, HQ.out⟩
  | true =>
  cases q with
  | false =>
    clear HT
    go_wp2_with fail
    go_ret
    exact ⟨rfl, HQ.out⟩
  | true =>
  by_cases hxy : x = y
  · have e := HT.out rfl rfl hxy
    obtain rfl : z = x := (Prod.mk.inj e).1
    obtain rfl : r = true := (Prod.mk.inj e).2
    subst hxy
    clear HT e
    go_wp2_with fail
    go_ret
    exact ⟨rfl, HQ.out⟩
  · have HN := Lib.hid hxy
    clear HT hxy
    go_wp2_with fail
    all_goals first | exact absurd rfl HN.out | (go_ret; exact ⟨rfl, HQ.out⟩)
end Go.Proofs.YtlhcejbimlilaaaGreatDoor
