/- RkU RkZ, laid as one. -/
import Derived.Test.YtgajpekolamjbaaDoorRkY
set_option linter.unusedVariables false
set_option linter.unusedSimpArgs false
/- wrong; shape, View of any bytes. -/
namespace Go.Proofs.YtgajpekolamjbaaDoor
open Go.RowKit Go.Tk
/-- An error value that tells the place x and the number y (0, 0: none). -/
def EV (w : World) (v : Value) (x y : Int) : Prop := (v = .nilIface ∧ x = 0 ∧ y = 0) ∨ ∃ b, y ≠ 0 ∧ v = .iface 61 (.pointer (some ⟨b, 0, none⟩)) ∧ w.heap[b]? = some (.cells #[.int .i64 x, .iface 54 (.int .i64 y)] 65 (0, 0))
theorem EV.nil (w : World) : EV w .nilIface 0 0 := .inl ⟨rfl, rfl, rfl⟩
theorem EV.below {w w' : World} {v : Value} {x y : Int} (h : EV w v x y) (hb : Below w.heap.size w w') : EV w' v x y := by
  rcases h with h | ⟨b, h0, h1, h2⟩
  · exact .inl h
  · exact .inr ⟨b, h0, h1, (hb.block b (lt_of_block h2)).trans h2⟩
theorem EV.some {w : World} {v : Value} {x y : Int} (hy : y ≠ 0) (h : EV w v x y) : ∃ i, v = .iface 61 (.pointer (some ⟨i, 0, none⟩)) := by
  rcases h with ⟨_, _, h⟩ | ⟨b, _, h, _⟩
  · exact absurd h hy
  · exact ⟨b, h⟩
theorem EV.none {w : World} {v : Value} {x : Int} (h : EV w v x 0) : v = .nilIface := by
  rcases h with ⟨h, _⟩ | ⟨b, h, _⟩
  · exact h
  · exact absurd rfl h
theorem wrong_calls (x y : Int) (w : World) : Calls Tryd.prog 29 #[.int .i64 x, .int .i64 y] w fun e w' => ∃ b, e = .returned (.iface 61 (.pointer (some ⟨b, 0, none⟩))) ∧ w.heap.size ≤ b ∧ w'.heap[b]? = some (.cells #[.int .i64 x, .iface 54 (.int .i64 y)] 65 (0, 0)) ∧ Below w.heap.size w w' := by
  go_enter Tryd.func29, Tryd.ntmps29
  go_wp2
  go_ret
  exact ⟨_, rfl, Nat.le_refl _, heap_alloc_new _ _, (Below.refl _ _).alloc (Nat.le_refl _) _⟩
theorem shape_short (w : World) (a : Option Addr) (L c : Nat) (h : L < 8) (hlc : L ≤ c) :
    Calls Tryd.prog 28 #[.slice a L c] w fun e w' => ∃ v, e = .returned (.tuple #[.pointer none, .bool false, v]) ∧ EV w' v (L : Nat) 10 ∧ Below w.heap.size w w' := by
  go_enter Tryd.func28, Tryd.ntmps28
  go_wp2_with (go_at_call 29; (with_reducible refine (wrong_calls _ _ _).mono ?_); rintro e w9 ⟨b9, rfl, hb9, hr9, hbe9⟩; (have HR9 := Lib.hid hr9); (have HBE9 := Lib.hid hbe9); clear hr9 hbe9)
  go_ret3
  exact ⟨_, rfl, .inr ⟨_, by decide, rfl, HR9.out⟩, HBE9.out⟩
set_option maxRecDepth 100000 in
set_option maxHeartbeats 2000000 in
theorem shape_long (w : World) (b o L c n m Gv Sv Mv Ev : Nat) (h8 : 8 ≤ L) (hlen : L ≤ c) (hmax : c ≤ 9223372036854775807)
    (hf0 : ∀ k, Calls Tryd.prog 47 #[.slice (some ⟨b, o, none⟩) L c] (w.drewN k) fun e w' => e = .returned (.int .i64 (n : Nat)) ∧ ∃ q, w' = (w.drewN k).drewN q)
    (hf4 : ∀ k, Calls Tryd.prog 47 #[.slice (some ⟨b, o + 4, none⟩) (L - 4) (c - 4)] (w.drewN k) fun e w' => e = .returned (.int .i64 (m : Nat)) ∧ ∃ q, w' = (w.drewN k).drewN q) (hN : 67108864 < n) (hn4 : n ≤ 4294967296) (hm4 : m ≤ 4294967296) :
    Calls Tryd.prog 28 #[.slice (some ⟨b, o, none⟩) L c] w fun e w' => ∃ v, e = .returned (.tuple #[.pointer none, .bool false, v]) ∧ EV w' v 0 2 ∧ Below w.heap.size w w' := by
  have H0 := Lib.hid hf0
  have H4 := Lib.hid hf4
  clear hf0 hf4
  go_enter Tryd.func28, Tryd.ntmps28
  go_wp2_with fail
  refine wp_region_quiet_tail (fun w' => ∃ n, w' = World.drewN _ n) 6 (by kernel_rfl) (by kernel_rfl) ⟨1, rfl⟩ ?_
  simp only [List.take_succ_cons, List.take_zero, List.drop_succ_cons, List.drop_zero]
  repeat (go_big_quiet_step (first
    | (go_at_call 47; (with_reducible exact quiet_dr (H0.out _)))
    | (go_at_call 47; (with_reducible exact quiet_dr (H4.out _)))))
  refine wpQuiet_nil ?_
  rintro _ ⟨n1, rfl⟩
  go_upto_region 4 with fail
  have hv : VRow ((w.drewN n1).alloc (.cells (VC (some ⟨b, o, none⟩) L c n m 0 0 0 0 0) 87)) w.heap.size (some ⟨b, o, none⟩) L c n m 0 0 0 0 0 := heap_alloc_new (w.drewN n1) _
  have hb : Below w.heap.size w ((w.drewN n1).alloc (.cells (VC (some ⟨b, o, none⟩) L c n m 0 0 0 0 0) 87)) := (below_drewN (Below.refl _ _) _).alloc (Nat.le_refl _) _
  unfold VC at hv hb
  generalize (w.drewN n1).alloc (.cells #[.slice (some ⟨b, o, none⟩) L c, .int .i64 (n : Nat), .int .i64 (m : Nat), .int .i64 0, .int .i64 0, .int .i64 0, .int .i64 0, .int .i64 0] 87) = w2 at hv hb ⊢
  generalize hgv : w.heap.size = gv at hv
  have hgw : w.heap.size ≤ gv := Nat.le_of_eq hgv
  clear hgv
  have k1 : w2.cell? ⟨gv, 1, none⟩ = some (.int .i64 (n : Nat)) := cell_of_row w2 gv 1 _ _ _ hv
  have k2 : w2.cell? ⟨gv, 2, none⟩ = some (.int .i64 (m : Nat)) := cell_of_row w2 gv 2 _ _ _ hv
  have HV := Lib.hid hv
  have HB := Lib.hid hb
  clear hv hb H0 H4
  go_wp2_with (go_at_call 29; (with_reducible refine (wrong_calls _ _ _).mono ?_); rintro e w9 ⟨b9, rfl, hb9, hr9, hbe9⟩; (have HR9 := Lib.hid hr9); (have HBE9 := Lib.hid hbe9); clear hr9 hbe9)
  go_ret3
  exact ⟨_, rfl, .inr ⟨_, by decide, rfl, HR9.out⟩, HB.out.trans (HBE9.out.mono HB.out.size)⟩
set_option maxRecDepth 100000 in
set_option maxHeartbeats 2000000 in
theorem shape_ones (w : World) (b o L c n m Gv Sv Mv Ev : Nat) (h8 : 8 ≤ L) (hlen : L ≤ c) (hmax : c ≤ 9223372036854775807)
    (hf0 : ∀ k, Calls Tryd.prog 47 #[.slice (some ⟨b, o, none⟩) L c] (w.drewN k) fun e w' => e = .returned (.int .i64 (n : Nat)) ∧ ∃ q, w' = (w.drewN k).drewN q)
    (hf4 : ∀ k, Calls Tryd.prog 47 #[.slice (some ⟨b, o + 4, none⟩) (L - 4) (c - 4)] (w.drewN k) fun e w' => e = .returned (.int .i64 (m : Nat)) ∧ ∃ q, w' = (w.drewN k).drewN q) (hN : n ≤ 67108864) (hmn : n < m) (hm4 : m ≤ 4294967296) :
    Calls Tryd.prog 28 #[.slice (some ⟨b, o, none⟩) L c] w fun e w' => ∃ v, e = .returned (.tuple #[.pointer none, .bool false, v]) ∧ EV w' v 4 20 ∧ Below w.heap.size w w' := by
  have H0 := Lib.hid hf0
  have H4 := Lib.hid hf4
  clear hf0 hf4
  go_enter Tryd.func28, Tryd.ntmps28
  go_wp2_with fail
  refine wp_region_quiet_tail (fun w' => ∃ n, w' = World.drewN _ n) 6 (by kernel_rfl) (by kernel_rfl) ⟨1, rfl⟩ ?_
  simp only [List.take_succ_cons, List.take_zero, List.drop_succ_cons, List.drop_zero]
  repeat (go_big_quiet_step (first
    | (go_at_call 47; (with_reducible exact quiet_dr (H0.out _)))
    | (go_at_call 47; (with_reducible exact quiet_dr (H4.out _)))))
  refine wpQuiet_nil ?_
  rintro _ ⟨n1, rfl⟩
  go_upto_region 4 with fail
  have hv : VRow ((w.drewN n1).alloc (.cells (VC (some ⟨b, o, none⟩) L c n m 0 0 0 0 0) 87)) w.heap.size (some ⟨b, o, none⟩) L c n m 0 0 0 0 0 := heap_alloc_new (w.drewN n1) _
  have hb : Below w.heap.size w ((w.drewN n1).alloc (.cells (VC (some ⟨b, o, none⟩) L c n m 0 0 0 0 0) 87)) := (below_drewN (Below.refl _ _) _).alloc (Nat.le_refl _) _
  unfold VC at hv hb
  generalize (w.drewN n1).alloc (.cells #[.slice (some ⟨b, o, none⟩) L c, .int .i64 (n : Nat), .int .i64 (m : Nat), .int .i64 0, .int .i64 0, .int .i64 0, .int .i64 0, .int .i64 0] 87) = w2 at hv hb ⊢
  generalize hgv : w.heap.size = gv at hv
  have hgw : w.heap.size ≤ gv := Nat.le_of_eq hgv
  clear hgv
  have k1 : w2.cell? ⟨gv, 1, none⟩ = some (.int .i64 (n : Nat)) := cell_of_row w2 gv 1 _ _ _ hv
  have k2 : w2.cell? ⟨gv, 2, none⟩ = some (.int .i64 (m : Nat)) := cell_of_row w2 gv 2 _ _ _ hv
  have HV := Lib.hid hv
  have HB := Lib.hid hb
  clear hv hb H0 H4
  go_wp2_with fail
  go_quiet (fail)
  go_wp2_with (go_at_call 29; (with_reducible refine (wrong_calls _ _ _).mono ?_); rintro e w9 ⟨b9, rfl, hb9, hr9, hbe9⟩; (have HR9 := Lib.hid hr9); (have HBE9 := Lib.hid hbe9); clear hr9 hbe9)
  go_ret3
  have HB7 := below_drewN HB.out nq
  exact ⟨_, rfl, .inr ⟨_, by decide, rfl, HR9.out⟩, HB7.trans (HBE9.out.mono HB7.size)⟩
set_option maxRecDepth 100000 in
set_option maxHeartbeats 2000000 in
theorem shape_end (w : World) (b o L c n m Gv Sv Mv Ev : Nat) (h8 : 8 ≤ L) (hlen : L ≤ c) (hmax : c ≤ 9223372036854775807)
    (hf0 : ∀ k, Calls Tryd.prog 47 #[.slice (some ⟨b, o, none⟩) L c] (w.drewN k) fun e w' => e = .returned (.int .i64 (n : Nat)) ∧ ∃ q, w' = (w.drewN k).drewN q)
    (hf4 : ∀ k, Calls Tryd.prog 47 #[.slice (some ⟨b, o + 4, none⟩) (L - 4) (c - 4)] (w.drewN k) fun e w' => e = .returned (.int .i64 (m : Nat)) ∧ ∃ q, w' = (w.drewN k).drewN q)
    (hcut : ∀ w, Calls Tryd.prog 27 #[.int .i64 (n : Nat), .int .i64 (m : Nat)] w fun e w' => e = .returned (.agg #[.int .i64 8, .int .i64 (Gv : Nat), .int .i64 (Sv : Nat), .int .i64 (Mv : Nat), .int .i64 (Ev : Nat)]) ∧ Below w.heap.size w w') (hN : n ≤ 67108864) (hm : m ≤ n) (hE : L < Ev) (hE2 : Ev ≤ 1000000000) :
    Calls Tryd.prog 28 #[.slice (some ⟨b, o, none⟩) L c] w fun e w' => ∃ v, e = .returned (.tuple #[.pointer none, .bool false, v]) ∧ EV w' v (L : Nat) 10 ∧ Below w.heap.size w w' := by
  have H0 := Lib.hid hf0
  have H4 := Lib.hid hf4
  have HCUT := Lib.hid hcut
  clear hf0 hf4 hcut
  go_enter Tryd.func28, Tryd.ntmps28
  go_wp2_with fail
  refine wp_region_quiet_tail (fun w' => ∃ n, w' = World.drewN _ n) 6 (by kernel_rfl) (by kernel_rfl) ⟨1, rfl⟩ ?_
  simp only [List.take_succ_cons, List.take_zero, List.drop_succ_cons, List.drop_zero]
  repeat (go_big_quiet_step (first
    | (go_at_call 47; (with_reducible exact quiet_dr (H0.out _)))
    | (go_at_call 47; (with_reducible exact quiet_dr (H4.out _)))))
  refine wpQuiet_nil ?_
  rintro _ ⟨n1, rfl⟩
  go_upto_region 4 with fail
  have hv : VRow ((w.drewN n1).alloc (.cells (VC (some ⟨b, o, none⟩) L c n m 0 0 0 0 0) 87)) w.heap.size (some ⟨b, o, none⟩) L c n m 0 0 0 0 0 := heap_alloc_new (w.drewN n1) _
  have hb : Below w.heap.size w ((w.drewN n1).alloc (.cells (VC (some ⟨b, o, none⟩) L c n m 0 0 0 0 0) 87)) := (below_drewN (Below.refl _ _) _).alloc (Nat.le_refl _) _
  unfold VC at hv hb
  generalize (w.drewN n1).alloc (.cells #[.slice (some ⟨b, o, none⟩) L c, .int .i64 (n : Nat), .int .i64 (m : Nat), .int .i64 0, .int .i64 0, .int .i64 0, .int .i64 0, .int .i64 0] 87) = w2 at hv hb ⊢
  generalize hgv : w.heap.size = gv at hv
  have hgw : w.heap.size ≤ gv := Nat.le_of_eq hgv
  clear hgv
  have k1 : w2.cell? ⟨gv, 1, none⟩ = some (.int .i64 (n : Nat)) := cell_of_row w2 gv 1 _ _ _ hv
  have k2 : w2.cell? ⟨gv, 2, none⟩ = some (.int .i64 (m : Nat)) := cell_of_row w2 gv 2 _ _ _ hv
  have HV := Lib.hid hv
  have HB := Lib.hid hb
  clear hv hb H0 H4
  go_wp2_with fail
  go_quiet (fail)
  go_upto_region 8 with fail
  have hv2 := HV.out
  have hb2 := below_drewN HB.out nq
  have hv2 : VRow (w2.drewN nq) gv (some ⟨b, o, none⟩) L c n m 0 0 0 0 0 := HV.out
  clear k1 k2 HV HB
  generalize w2.drewN nq = w3 at hv2 hb2 ⊢
  have hlt := lt_of_block hv2
  refine wp_region_quiet_tail (fun w' => VRow w' gv (some ⟨b, o, none⟩) L c n m 0 0 0 0 0 ∧ Below w.heap.size w w') 12 (by kernel_rfl) (by kernel_rfl) ⟨hv2, Below.drew hb2⟩ ?_
  simp only [List.take_succ_cons, List.take_zero, List.drop_succ_cons, List.drop_zero]
  refine wq_val (.pointer (some ⟨gv, 0, none⟩)) rfl (fun w' _ => by simp [go_sem]) ?_
  refine wq_val (.pointer (some ⟨gv, 0, none⟩)) rfl (fun w' _ => by simp [go_sem]) ?_
  refine wq_val (.pointer (some ⟨gv, 0, none⟩)) rfl (fun w' _ => by simp [go_sem]) ?_
  simp only [go_sem, List.setIfInBounds_toArray, List.set_cons_succ, List.set_cons_zero]
  refine wq_val (.pointer (some ⟨gv, 1, none⟩)) rfl (fun w' _ => by simp [go_sem]) ?_
  refine wq_val (.int .i64 (n : Nat)) rfl (fun w' h => by have k1 : w'.cell? ⟨gv, 1, none⟩ = some (.int .i64 (n : Nat)) := cell_of_row w' gv 1 _ _ _ h.1
                                                          simp [go_sem, k1]) ?_
  simp only [go_sem, List.setIfInBounds_toArray, List.set_cons_succ, List.set_cons_zero]
  refine wq_val (.pointer (some ⟨gv, 0, none⟩)) rfl (fun w' _ => by simp [go_sem]) ?_
  refine wq_val (.pointer (some ⟨gv, 0, none⟩)) rfl (fun w' _ => by simp [go_sem]) ?_
  refine wq_val (.pointer (some ⟨gv, 2, none⟩)) rfl (fun w' _ => by simp [go_sem]) ?_
  simp only [go_sem, List.setIfInBounds_toArray, List.set_cons_succ, List.set_cons_zero]
  refine wq_val (.int .i64 (m : Nat)) rfl (fun w' h => by have k2 : w'.cell? ⟨gv, 2, none⟩ = some (.int .i64 (m : Nat)) := cell_of_row w' gv 2 _ _ _ h.1
                                                          simp [go_sem, k2]) ?_
  simp only [go_sem, List.setIfInBounds_toArray, List.set_cons_succ, List.set_cons_zero]
  refine wq_call (.agg #[.int .i64 8, .int .i64 (Gv : Nat), .int .i64 (Sv : Nat), .int .i64 (Mv : Nat), .int .i64 (Ev : Nat)]) 27 #[.int .i64 (n : Nat), .int .i64 (m : Nat)] rfl (fun w' => by simp [go_sem]) (fun w' h => (HCUT.out w').mono fun e w'' ⟨h1, h2⟩ => ⟨h1, (h2.block gv (lt_of_block h.1)).trans h.1, h.2.trans (h2.mono h.2.size)⟩) ?_
  refine wq_val (.pointer (some ⟨gv, 0, none⟩)) rfl (fun w' _ => by simp [go_sem]) ?_
  refine wq_val (.pointer (some ⟨gv, 3, none⟩)) rfl (fun w' _ => by simp [go_sem]) ?_
  simp only [go_sem, List.setIfInBounds_toArray, List.set_cons_succ, List.set_cons_zero]
  refine wpQuiet_nil ?_
  rintro w4 ⟨hv4, hb4⟩
  have c3 : w4.cell? ⟨gv, 3, none⟩ = some (.int .i64 0) := cell_of_row w4 gv 3 _ _ _ hv4
  have c4 : w4.cell? ⟨gv, 4, none⟩ = some (.int .i64 0) := cell_of_row w4 gv 4 _ _ _ hv4
  have c5 : w4.cell? ⟨gv, 5, none⟩ = some (.int .i64 0) := cell_of_row w4 gv 5 _ _ _ hv4
  have c6 : w4.cell? ⟨gv, 6, none⟩ = some (.int .i64 0) := cell_of_row w4 gv 6 _ _ _ hv4
  have c7 : w4.cell? ⟨gv, 7, none⟩ = some (.int .i64 0) := cell_of_row w4 gv 7 _ _ _ hv4
  have f3 : ∀ i, w4.frozen? ⟨gv, i, none⟩ = false := fun i => frozen_of_row w4 gv i _ _ hv4
  have hlt4 := lt_of_block hv4
  have HV4 := Lib.hid hv4
  have HB4 := Lib.hid hb4
  clear hv4 hb4 hv2 hb2 hlt
  go_upto_region 11 with fail
  have hv5 := ((((HV4.out.s3 8).s4 (Gv : Nat)).s5 (Sv : Nat)).s6 (Mv : Nat)).s7 (Ev : Nat)
  have hb5 : Below w.heap.size w (((((w4.setCell ⟨gv, 3, none⟩ (.int .i64 8)).setCell ⟨gv, 4, none⟩ (.int .i64 (Gv : Nat))).setCell ⟨gv, 5, none⟩ (.int .i64 (Sv : Nat))).setCell ⟨gv, 6, none⟩ (.int .i64 (Mv : Nat))).setCell ⟨gv, 7, none⟩ (.int .i64 (Ev : Nat))) :=
    ((((HB4.out.setCell (p := ⟨gv, 3, none⟩) hgw _).setCell (p := ⟨gv, 4, none⟩) hgw _).setCell (p := ⟨gv, 5, none⟩) hgw _).setCell (p := ⟨gv, 6, none⟩) hgw _).setCell (p := ⟨gv, 7, none⟩) hgw _
  generalize (((((w4.setCell ⟨gv, 3, none⟩ (.int .i64 8)).setCell ⟨gv, 4, none⟩ (.int .i64 (Gv : Nat))).setCell ⟨gv, 5, none⟩ (.int .i64 (Sv : Nat))).setCell ⟨gv, 6, none⟩ (.int .i64 (Mv : Nat))).setCell ⟨gv, 7, none⟩ (.int .i64 (Ev : Nat))) = w5 at hv5 hb5 ⊢
  have k7 : w5.cell? ⟨gv, 7, none⟩ = some (.int .i64 (Ev : Nat)) := cell_of_row w5 gv 7 _ _ _ hv5
  have HV5 := Lib.hid hv5
  have HB5 := Lib.hid hb5
  clear hv5 hb5 HV4 HB4 c3 c4 c5 c6 c7 f3 hlt4
  go_wp2_with (go_at_call 29; (with_reducible refine (wrong_calls _ _ _).mono ?_); rintro e w9 ⟨b9, rfl, hb9, hr9, hbe9⟩; (have HR9 := Lib.hid hr9); (have HBE9 := Lib.hid hbe9); clear hr9 hbe9)
  go_ret3
  exact ⟨_, rfl, .inr ⟨_, by decide, rfl, HR9.out⟩, HB5.out.trans (HBE9.out.mono HB5.out.size)⟩
/-- What View says of bytes: a place and a number (0, 0: a vector). -/
def shF (bs : List UInt8) : Nat × Nat := if bs.length < 8 then (bs.length, 10) else if 67108864 < f4 bs 0 then (0, 2) else if f4 bs 0 < f4 bs 4 then (4, 20) else if bs.length < oE (f4 bs 0) (f4 bs 4) then (bs.length, 10) else (0, 0)
def fV (bs : List UInt8) : Nat × Nat := if (shF bs).2 ≠ 0 then shF bs else if oE (f4 bs 0) (f4 bs 4) < bs.length then (oE (f4 bs 0) (f4 bs 4), 13) else (0, 0)
theorem shF_ok {bs : List UInt8} (h : (shF bs).2 = 0) : 8 ≤ bs.length ∧ f4 bs 0 ≤ 67108864 ∧ f4 bs 4 ≤ f4 bs 0 ∧ oE (f4 bs 0) (f4 bs 4) ≤ bs.length ∧ shF bs = (0, 0) := by
  unfold shF at h ⊢
  split at h; · simp at h
  split at h; · simp at h
  split at h; · simp at h
  split at h; · simp at h
  rename_i h1 h2 h3 h4
  rw [if_neg h1, if_neg h2, if_neg h3, if_neg h4]
  exact ⟨by omega, by omega, by omega, by omega, rfl⟩
theorem shF_le (bs : List UInt8) : (shF bs).2 ≤ 20 := by
  unfold shF; repeat' split
  all_goals (simp only; omega)
theorem shape_no (w : World) (a : Option Addr) (c : Nat) (bs : List UInt8) (hs : SlI .u8 w a bs.length c (nums bs)) (he : (shF bs).2 ≠ 0) :
    Calls Tryd.prog 28 #[.slice a bs.length c] w fun e w' => ∃ v, e = .returned (.tuple #[.pointer none, .bool false, v]) ∧ EV w' v ((shF bs).1 : Nat) ((shF bs).2 : Nat) ∧ Below w.heap.size w w' := by
  have hlc := hs.le
  by_cases h1 : bs.length < 8
  · have e : shF bs = (bs.length, 10) := by unfold shF; rw [if_pos h1]
    rw [e]
    exact shape_short w a _ c h1 hlc
  obtain ⟨b, o, rfl, _⟩ := hs.cell 0 (by omega)
  have s4 := hs.tail 4 (by omega)
  rw [nums_drop, if_neg (by omega)] at s4
  simp only [Option.map_some, Addr.add_lit] at s4
  have hf0 := fun k => four_calls (w.drewN k) _ _ _ _ (hs.drewN k) (by omega)
  have hf4 := fun k => four_calls (w.drewN k) _ _ _ _ (s4.drewN k) (by omega)
  simp only [f4_drop] at hf4
  have b0 := f4_lt bs 0
  have b4 := f4_lt bs 4
  by_cases h2 : 67108864 < f4 bs 0
  · have e : shF bs = (0, 2) := by unfold shF; rw [if_neg h1, if_pos h2]
    rw [e]
    exact shape_long w b o bs.length c (f4 bs 0) (f4 bs 4) 0 0 0 0 (by omega) hlc hs.max hf0 hf4 h2 (by omega) (by omega)
  by_cases h3 : f4 bs 0 < f4 bs 4
  · have e : shF bs = (4, 20) := by unfold shF; rw [if_neg h1, if_neg h2, if_pos h3]
    rw [e]
    exact shape_ones w b o bs.length c (f4 bs 0) (f4 bs 4) 0 0 0 0 (by omega) hlc hs.max hf0 hf4 (by omega) h3 (by omega)
  by_cases h4 : bs.length < oE (f4 bs 0) (f4 bs 4)
  · have e : shF bs = (bs.length, 10) := by unfold shF; rw [if_neg h1, if_neg h2, if_neg h3, if_pos h4]
    rw [e]
    refine shape_end w b o bs.length c (f4 bs 0) (f4 bs 4) (oG (f4 bs 0)) (oS (f4 bs 0)) (oM (f4 bs 0)) (oE (f4 bs 0) (f4 bs 4)) (by omega) hlc hs.max hf0 hf4 (fun w' => ?_) (by omega) (by omega) h4 (by unfold oE oM oS oG; omega)
    have h := cut_calls (f4 bs 0 : Nat) (f4 bs 4 : Nat) w' (by omega) (by omega) (by omega) (by omega)
    rw [cutV_o] at h
    exact h
  · exfalso; apply he; unfold shF; rw [if_neg h1, if_neg h2, if_neg h3, if_neg h4]
theorem shape_yes (w : World) (a : Option Addr) (c : Nat) (bs : List UInt8) (hs : SlI .u8 w a bs.length c (nums bs)) (he : (shF bs).2 = 0) :
    Calls Tryd.prog 28 #[.slice a bs.length c] w fun e w' => ∃ gv, e = .returned (.tuple #[.pointer (some ⟨gv, 0, none⟩), .bool ((bs.length : Int) == (oE (f4 bs 0) (f4 bs 4) : Nat)), .nilIface]) ∧ w.heap.size ≤ gv ∧
      VRow w' gv a bs.length c (f4 bs 0) (f4 bs 4) 8 (oG (f4 bs 0) : Nat) (oS (f4 bs 0) : Nat) (oM (f4 bs 0) : Nat) (oE (f4 bs 0) (f4 bs 4) : Nat) ∧ Below w.heap.size w w' := by
  obtain ⟨h1, h2, h3, h4, _⟩ := shF_ok he
  exact shape_ok w a c bs hs h1 h2 h3 h4
/-- View of any bytes. -/
theorem view_any (w : World) (a : Option Addr) (c : Nat) (bs : List UInt8) (hs : SlI .u8 w a bs.length c (nums bs)) :
    Calls Tryd.prog 16 #[.slice a bs.length c] w fun e w' => ∃ p v, e = .returned (.tuple #[.pointer p, v]) ∧ EV w' v ((fV bs).1 : Nat) ((fV bs).2 : Nat) ∧ Below w.heap.size w w' ∧
      (((fV bs).2 ≠ 0 ∧ p = none) ∨ ((fV bs).2 = 0 ∧ ∃ gv, p = some ⟨gv, 0, none⟩ ∧ VecAt w' gv a c bs (f4 bs 0) (f4 bs 4))) := by
  by_cases he : (shF bs).2 ≠ 0
  · have e : fV bs = shF bs := by unfold fV; rw [if_pos he]
    have hS := shape_no w a c bs hs he
    rw [e]
    obtain ⟨x, hx⟩ : ∃ x, x = (shF bs).1 := ⟨_, rfl⟩
    obtain ⟨y, hy⟩ : ∃ y, y = (shF bs).2 := ⟨_, rfl⟩
    rw [← hx, ← hy] at hS ⊢
    rw [← hy] at he
    have hy0 : (y : Int) ≠ 0 := by omega
    have H := Lib.hid hS
    clear hS hs e hx hy
    go_enter Tryd.func16, Tryd.ntmps16
    go_wp2_with (go_at_call 28; (with_reducible refine H.out.mono ?_); rintro e w1 ⟨v, rfl, hv, hb⟩; obtain ⟨i, rfl⟩ := hv.some hy0; (have HV := Lib.hid hv); (have HB := Lib.hid hb); clear hv hb)
    go_ret2
    exact ⟨none, _, rfl, HV.out, HB.out, .inl ⟨he, rfl⟩⟩
  have he0 : (shF bs).2 = 0 := by simpa using he
  obtain ⟨_, hN, hm, hE, _⟩ := shF_ok he0
  have hS := shape_yes w a c bs hs he0
  have hfE : oE (f4 bs 0) (f4 bs 4) ≤ 1000000000 := by unfold oE oM oS oG; omega
  by_cases hgt : oE (f4 bs 0) (f4 bs 4) < bs.length
  · have e : fV bs = (oE (f4 bs 0) (f4 bs 4), 13) := by unfold fV; rw [if_neg he, if_pos hgt]
    rw [e]
    have hne : ((bs.length : Int) == (oE (f4 bs 0) (f4 bs 4) : Nat)) = false := by simp; omega
    rw [hne] at hS
    generalize oE (f4 bs 0) (f4 bs 4) = Ev at hS hfE ⊢
    have H := Lib.hid hS
    clear hS hs e hne
    go_enter Tryd.func16, Tryd.ntmps16
    go_wp2_with (first
      | (go_at_call 28; (with_reducible refine H.out.mono ?_); rintro e w1 ⟨gv, rfl, hgv, hv, hb⟩; (have HB := Lib.hid hb); (have k7 : w1.cell? ⟨gv, 7, none⟩ = some (.int .i64 (Ev : Nat)) := cell_of_row w1 gv 7 _ _ _ hv); clear hv hb)
      | (go_at_call 29; (with_reducible refine (wrong_calls _ _ _).mono ?_); rintro e w9 ⟨b9, rfl, hb9, hr9, hbe9⟩; (have HR9 := Lib.hid hr9); (have HBE9 := Lib.hid hbe9); clear hr9 hbe9))
    go_ret2
    exact ⟨none, _, rfl, .inr ⟨_, by decide, rfl, HR9.out⟩, HB.out.trans (HBE9.out.mono HB.out.size), .inl ⟨by decide, rfl⟩⟩
  · have e : fV bs = (0, 0) := by unfold fV; rw [if_neg he, if_neg hgt]
    rw [e]
    have heq : bs.length = oE (f4 bs 0) (f4 bs 4) := by omega
    have hne : ((bs.length : Int) == (oE (f4 bs 0) (f4 bs 4) : Nat)) = true := by rw [← heq]; simp
    rw [hne] at hS
    have HVF := Lib.hid (fun (w' : World) gv (h : VRow w' gv a bs.length c (f4 bs 0) (f4 bs 4) 8 (oG (f4 bs 0) : Nat) (oS (f4 bs 0) : Nat) (oM (f4 bs 0) : Nat) (oE (f4 bs 0) (f4 bs 4) : Nat)) hb => vec_of h (hs.keep hb) hN hm heq)
    have H := Lib.hid hS
    clear hS hs e hne heq hgt hfE hE hm hN
    go_enter Tryd.func16, Tryd.ntmps16
    go_wp2_with (go_at_call 28; (with_reducible refine H.out.mono ?_); rintro e w1 ⟨gv, rfl, hgv, hv, hb⟩; (have HV := Lib.hid (HVF.out _ _ hv hb)); (have HB := Lib.hid hb); clear hv hb)
    go_ret2
    exact ⟨_, _, rfl, EV.nil _, HB.out, .inr ⟨by first | rfl | trivial, gv, rfl, HV.out⟩⟩
end Go.Proofs.YtgajpekolamjbaaDoor
/- spoilt of right bytes: nothing is. -/
namespace Go.Proofs.YtgajpekolamjbaaDoor
open Go.RowKit Go.Tk
set_option maxRecDepth 100000 in
set_option maxHeartbeats 1000000 in
theorem tell_g (w : World) (gv p1 p2 b o L c G Sm M i v : Nat) (hp : G + 4 * i + 4 ≤ L) (hLc : L ≤ c) (hc : c ≤ 9223372036854775807) (hM : M ≤ 1000000000) (hi : i ≤ 1000000000)
    (q1 : w.cell? ⟨p1, 0, none⟩ = some (.pointer (some ⟨gv, 0, none⟩))) (k0 : w.cell? ⟨gv, 0, none⟩ = some (.slice (some ⟨b, o, none⟩) L c)) (k4 : w.cell? ⟨gv, 4, none⟩ = some (.int .i64 (G : Nat))) (k5 : w.cell? ⟨gv, 5, none⟩ = some (.int .i64 (Sm : Nat))) (k6 : w.cell? ⟨gv, 6, none⟩ = some (.int .i64 (M : Nat)))
    (hf : Calls Tryd.prog 47 #[.slice (some ⟨b, o + (G + 4 * i), none⟩) (L - (G + 4 * i)) (c - (G + 4 * i))] w fun e w' => e = .returned (.int .i64 (v : Nat)) ∧ ∃ q, w' = w.drewN q) :
    Calls Tryd.prog 66 #[.int .i64 2048, .int .i64 (i : Nat), .int .i64 (v : Nat), .pointer (some ⟨p1, 0, none⟩), .pointer (some ⟨p2, 0, none⟩)] w fun e w' => e = .returned (.bool true) ∧ ∃ q, w' = w.drewN q := by
  have hvv : ((v : Int) != (v : Int)) = false := by simp
  have HF := Lib.hid hf
  clear hf
  go_enter Tryd.func66, Tryd.ntmps66
  go_wp2_with (go_at_call 47; (with_reducible refine HF.out.mono ?_); rintro e w5 ⟨rfl, q5, rfl⟩)
  go_ret
  exact ⟨rfl, _, rfl⟩
set_option maxRecDepth 100000 in
set_option maxHeartbeats 1000000 in
theorem tell_s (w : World) (gv p1 p2 b o L c G Sm M i v : Nat) (hp : Sm + 2 * i + 2 ≤ L) (hLc : L ≤ c) (hc : c ≤ 9223372036854775807) (hM : M ≤ 1000000000) (hi : i ≤ 1000000000)
    (q1 : w.cell? ⟨p1, 0, none⟩ = some (.pointer (some ⟨gv, 0, none⟩))) (k0 : w.cell? ⟨gv, 0, none⟩ = some (.slice (some ⟨b, o, none⟩) L c)) (k4 : w.cell? ⟨gv, 4, none⟩ = some (.int .i64 (G : Nat))) (k5 : w.cell? ⟨gv, 5, none⟩ = some (.int .i64 (Sm : Nat))) (k6 : w.cell? ⟨gv, 6, none⟩ = some (.int .i64 (M : Nat)))
    (hf : Calls Tryd.prog 67 #[.slice (some ⟨b, o + (Sm + 2 * i), none⟩) (L - (Sm + 2 * i)) (c - (Sm + 2 * i))] w fun e w' => e = .returned (.int .i64 (v : Nat)) ∧ ∃ q, w' = w.drewN q) :
    Calls Tryd.prog 66 #[.int .i64 256, .int .i64 (i : Nat), .int .i64 (v : Nat), .pointer (some ⟨p1, 0, none⟩), .pointer (some ⟨p2, 0, none⟩)] w fun e w' => e = .returned (.bool true) ∧ ∃ q, w' = w.drewN q := by
  have hvv : ((v : Int) != (v : Int)) = false := by simp
  have HF := Lib.hid hf
  clear hf
  go_enter Tryd.func66, Tryd.ntmps66
  go_wp2_with (go_at_call 67; (with_reducible refine HF.out.mono ?_); rintro e w5 ⟨rfl, q5, rfl⟩)
  go_ret
  exact ⟨rfl, _, rfl⟩
set_option maxRecDepth 100000 in
set_option maxHeartbeats 1000000 in
theorem tell_m (w : World) (gv p1 p2 b o L c G Sm M i v : Nat) (hp : M + 4 * i + 4 ≤ L) (hLc : L ≤ c) (hc : c ≤ 9223372036854775807) (hM : M ≤ 1000000000) (hi : i ≤ 1000000000)
    (q1 : w.cell? ⟨p1, 0, none⟩ = some (.pointer (some ⟨gv, 0, none⟩))) (k0 : w.cell? ⟨gv, 0, none⟩ = some (.slice (some ⟨b, o, none⟩) L c)) (k4 : w.cell? ⟨gv, 4, none⟩ = some (.int .i64 (G : Nat))) (k5 : w.cell? ⟨gv, 5, none⟩ = some (.int .i64 (Sm : Nat))) (k6 : w.cell? ⟨gv, 6, none⟩ = some (.int .i64 (M : Nat)))
    (hf : Calls Tryd.prog 47 #[.slice (some ⟨b, o + (M + 4 * i), none⟩) (L - (M + 4 * i)) (c - (M + 4 * i))] w fun e w' => e = .returned (.int .i64 (v : Nat)) ∧ ∃ q, w' = w.drewN q) :
    Calls Tryd.prog 66 #[.int .i64 512, .int .i64 (i : Nat), .int .i64 (v : Nat), .pointer (some ⟨p1, 0, none⟩), .pointer (some ⟨p2, 0, none⟩)] w fun e w' => e = .returned (.bool true) ∧ ∃ q, w' = w.drewN q := by
  have hvv : ((v : Int) != (v : Int)) = false := by simp
  have HF := Lib.hid hf
  clear hf
  go_enter Tryd.func66, Tryd.ntmps66
  go_wp2_with (go_at_call 47; (with_reducible refine HF.out.mono ?_); rintro e w5 ⟨rfl, q5, rfl⟩)
  go_ret
  exact ⟨rfl, _, rfl⟩
theorem cf_spoilt {x1 x2 : Value} (p q r : Int) (w : World) : (callFunc 66 #[.int .i64 p, .int .i64 q, .int .i64 r, x1, x2]).run Tryd.prog w = .ok (.enter 66 #[.int .i64 p, .int .i64 q, .int .i64 r, x1, x2]) w := by kernel_rfl
theorem tell_wh (w : World) (gv p1 p2 : Nat) (a : Option Addr) (c : Nat) (d : List UInt8) (N : Nat) (hl : d.length = (N + 7) / 8) (hv : VecAt w gv a c (whB d N) N (cntB d N)) (q1 : w.cell? ⟨p1, 0, none⟩ = some (.pointer (some ⟨gv, 0, none⟩))) (part i v : Nat) (ht : Vt d N (part, i, v)) :
    Calls Tryd.prog 66 #[.int .i64 (part : Nat), .int .i64 (i : Nat), .int .i64 (v : Nat), .pointer (some ⟨p1, 0, none⟩), .pointer (some ⟨p2, 0, none⟩)] w fun e w' => e = .returned (.bool true) ∧ ∃ q, w' = w.drewN q := by
  obtain ⟨e1, e2, e3, e4⟩ := o_eq hl
  have hN := hv.nN
  have hcn := cnt_le d N
  have hlen : (whB d N).length = enO d N := wh_len' d N
  have hE : enO d N ≤ 100000000 := by unfold enO mkO smO grO; omega
  have h8 : 8 ≤ enO d N := by unfold enO mkO smO grO; omega
  obtain ⟨b, o, rfl, _⟩ := hv.sl.cell 0 (by omega)
  have k0 := hv.k0
  have k4 := hv.k4
  have k5 := hv.k5
  have k6 : w.cell? ⟨gv, 6, none⟩ = some (.int .i64 (oM N : Nat)) := cell_of_row w gv 6 _ _ _ hv.row
  rw [e1] at k4
  rw [e2] at k5
  rw [e3] at k6
  obtain ⟨w1, w2⟩ := wh_at ht
  have hvb := vt_le ht hN
  have hMb : mkO d N ≤ 1000000000 := by have : mkO d N ≤ enO d N := by unfold enO; omega
                                        omega
  have ht' := ht
  rcases ht with ⟨h1, h2⟩ | ⟨h1, h2⟩ | ⟨h1, h2⟩
  · simp only at h1 h2
    subst h1
    have ep : posT d N (2048, i, v) = grO d + 4 * i := rfl
    have es : szT (2048, i, v) = 4 := rfl
    rw [ep, es] at w1 w2
    have hvv : v < 4294967296 := by omega
    have s4 := hv.sl.tail (grO d + 4 * i) (by omega)
    rw [nums_drop, if_neg (by have := hv.sl.le; omega)] at s4
    simp only [Option.map_some, Addr.add_lit] at s4
    have hf := four_calls w _ _ _ _ s4 (by omega)
    rw [f4_drop, f4_of w2 hvv] at hf
    exact tell_g w gv p1 p2 b o (whB d N).length c (grO d) (smO d N) (mkO d N) i v (by omega) hv.sl.le hv.sl.max hMb (by omega) q1 k0 k4 k5 k6 hf
  · simp only at h1 h2
    subst h1
    have ep : posT d N (256, i, v) = smO d N + 2 * i := rfl
    have es : szT (256, i, v) = 2 := rfl
    rw [ep, es] at w1 w2
    have hvv : v < 65536 := by
      have hi := (List.getElem?_eq_some_iff.1 h2).1
      rw [sm_len] at hi
      rw [sm_get d i N (by omega)] at h2
      have := Option.some.inj h2
      have g2 := cnt_add d (i / 8 * 2048) (i * 256 - i / 8 * 2048)
      rw [show i / 8 * 2048 + (i * 256 - i / 8 * 2048) = i * 256 by omega] at g2
      omega
    have s4 := hv.sl.tail (smO d N + 2 * i) (by omega)
    rw [nums_drop, if_neg (by have := hv.sl.le; omega)] at s4
    simp only [Option.map_some, Addr.add_lit] at s4
    have hf := two_calls w _ _ _ _ s4 (by omega)
    rw [f2_drop, f2_of w2 hvv] at hf
    exact tell_s w gv p1 p2 b o (whB d N).length c (grO d) (smO d N) (mkO d N) i v (by omega) hv.sl.le hv.sl.max hMb (by omega) q1 k0 k4 k5 k6 hf
  · simp only at h1 h2
    subst h1
    have ep : posT d N (512, i, v) = mkO d N + 4 * i := rfl
    have es : szT (512, i, v) = 4 := rfl
    rw [ep, es] at w1 w2
    have hvv : v < 4294967296 := by omega
    have s4 := hv.sl.tail (mkO d N + 4 * i) (by omega)
    rw [nums_drop, if_neg (by have := hv.sl.le; omega)] at s4
    simp only [Option.map_some, Addr.add_lit] at s4
    have hf := four_calls w _ _ _ _ s4 (by omega)
    rw [f4_drop, f4_of w2 hvv] at hf
    exact tell_m w gv p1 p2 b o (whB d N).length c (grO d) (smO d N) (mkO d N) i v (by omega) hv.sl.le hv.sl.max hMb (by omega) q1 k0 k4 k5 k6 hf
end Go.Proofs.YtgajpekolamjbaaDoor
