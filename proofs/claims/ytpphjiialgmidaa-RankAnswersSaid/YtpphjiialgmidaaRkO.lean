/- shape, View, Open of a vector's bytes. -/
import Derived.Test.YtpphjiialgmidaaRkT
import Derived.Deep.CutBlock
set_option linter.unusedVariables false
set_option linter.unusedSimpArgs false
namespace Go.Proofs.Ytpphjiialgmidaa
open Go.RowKit Go.Tk
def VC (a : Option Addr) (l c n m : Nat) (x3 x4 x5 x6 x7 : Int) : Array Value := #[.slice a l c, .int .i64 (n : Nat), .int .i64 (m : Nat), .int .i64 x3, .int .i64 x4, .int .i64 x5, .int .i64 x6, .int .i64 x7]
def VRow (w : World) (gv : Nat) (a : Option Addr) (l c n m : Nat) (x3 x4 x5 x6 x7 : Int) : Prop := w.heap[gv]? = some (.cells (VC a l c n m x3 x4 x5 x6 x7) 78 (0, 0))
theorem VRow.s3 {w : World} {gv : Nat} {a : Option Addr} {l c n m : Nat} {x3 x4 x5 x6 x7 : Int} (h : VRow w gv a l c n m x3 x4 x5 x6 x7) (v : Int) : VRow (w.setCell ⟨gv, 3, none⟩ (.int .i64 v)) gv a l c n m v x4 x5 x6 x7 := by unfold VRow; rw [heap_setCell_same w gv 3 _ _ _ h]; rfl
theorem VRow.s4 {w : World} {gv : Nat} {a : Option Addr} {l c n m : Nat} {x3 x4 x5 x6 x7 : Int} (h : VRow w gv a l c n m x3 x4 x5 x6 x7) (v : Int) : VRow (w.setCell ⟨gv, 4, none⟩ (.int .i64 v)) gv a l c n m x3 v x5 x6 x7 := by unfold VRow; rw [heap_setCell_same w gv 4 _ _ _ h]; rfl
theorem VRow.s5 {w : World} {gv : Nat} {a : Option Addr} {l c n m : Nat} {x3 x4 x5 x6 x7 : Int} (h : VRow w gv a l c n m x3 x4 x5 x6 x7) (v : Int) : VRow (w.setCell ⟨gv, 5, none⟩ (.int .i64 v)) gv a l c n m x3 x4 v x6 x7 := by unfold VRow; rw [heap_setCell_same w gv 5 _ _ _ h]; rfl
theorem VRow.s6 {w : World} {gv : Nat} {a : Option Addr} {l c n m : Nat} {x3 x4 x5 x6 x7 : Int} (h : VRow w gv a l c n m x3 x4 x5 x6 x7) (v : Int) : VRow (w.setCell ⟨gv, 6, none⟩ (.int .i64 v)) gv a l c n m x3 x4 x5 v x7 := by unfold VRow; rw [heap_setCell_same w gv 6 _ _ _ h]; rfl
theorem VRow.s7 {w : World} {gv : Nat} {a : Option Addr} {l c n m : Nat} {x3 x4 x5 x6 x7 : Int} (h : VRow w gv a l c n m x3 x4 x5 x6 x7) (v : Int) : VRow (w.setCell ⟨gv, 7, none⟩ (.int .i64 v)) gv a l c n m x3 x4 x5 x6 v := by unfold VRow; rw [heap_setCell_same w gv 7 _ _ _ h]; rfl
theorem cutV_o (n m : Nat) : cutV (n : Int) (m : Int) = .agg #[.int .i64 8, .int .i64 (oG n : Nat), .int .i64 (oS n : Nat), .int .i64 (oM n : Nat), .int .i64 (oE n m : Nat)] := by
  have e1 : (8 : Int) + ((n : Int) + 8 - 1) / 8 = (oG n : Nat) := by unfold oG; omega
  have e2 : (oG n : Int) + 4 * (((n : Int) + 2048 - 1) / 2048) = (oS n : Nat) := by unfold oS; omega
  have e3 : (oS n : Int) + 2 * (((n : Int) + 256 - 1) / 256) = (oM n : Nat) := by unfold oM; omega
  have e4 : (oM n : Int) + 4 * (((m : Nat) + 512 - 1 : Int) / 512) = (oE n m : Nat) := by unfold oE; omega
  unfold cutV
  rw [e1, e2, e3, e4]
set_option maxRecDepth 100000 in
set_option maxHeartbeats 2000000 in
theorem shape_go (w : World) (b o L c n m Gv Sv Mv Ev : Nat) (h8 : 8 ≤ L) (hlen : L ≤ c) (hmax : c ≤ 9223372036854775807) (hN : n ≤ 67108864) (hm : m ≤ n) (hE : Ev ≤ L)
    (hf0 : ∀ k, Calls Try.prog 57 #[.slice (some ⟨b, o, none⟩) L c] (w.drewN k) fun e w' => e = .returned (.int .i64 (n : Nat)) ∧ ∃ q, w' = (w.drewN k).drewN q)
    (hf4 : ∀ k, Calls Try.prog 57 #[.slice (some ⟨b, o + 4, none⟩) (L - 4) (c - 4)] (w.drewN k) fun e w' => e = .returned (.int .i64 (m : Nat)) ∧ ∃ q, w' = (w.drewN k).drewN q)
    (hcut : ∀ w, Calls Try.prog 37 #[.int .i64 (n : Nat), .int .i64 (m : Nat)] w fun e w' => e = .returned (.agg #[.int .i64 8, .int .i64 (Gv : Nat), .int .i64 (Sv : Nat), .int .i64 (Mv : Nat), .int .i64 (Ev : Nat)]) ∧ Below w.heap.size w w') :
    Calls Try.prog 47 #[.slice (some ⟨b, o, none⟩) L c] w fun e w' => ∃ gv, e = .returned (.tuple #[.pointer (some ⟨gv, 0, none⟩), .bool ((L : Int) == (Ev : Nat)), .nilIface]) ∧ w.heap.size ≤ gv ∧
      VRow w' gv (some ⟨b, o, none⟩) L c n m 8 (Gv : Nat) (Sv : Nat) (Mv : Nat) (Ev : Nat) ∧ Below w.heap.size w w' := by
  have H0 := Lib.hid hf0
  have H4 := Lib.hid hf4
  have HCUT := Lib.hid hcut
  clear hf0 hf4 hcut
  go_enter Try.func47, Try.ntmps47
  go_wp2_with fail
  refine wp_region_quiet_tail (fun w' => ∃ n, w' = World.drewN _ n) 6 (by kernel_rfl) (by kernel_rfl) ⟨1, rfl⟩ ?_
  simp only [List.take_succ_cons, List.take_zero, List.drop_succ_cons, List.drop_zero]
  repeat (go_big_quiet_step (first
    | (go_at_call 57; (with_reducible exact quiet_dr (H0.out _)))
    | (go_at_call 57; (with_reducible exact quiet_dr (H4.out _)))))
  refine wpQuiet_nil ?_
  rintro _ ⟨n1, rfl⟩
  go_upto_region 4 with fail
  have hv : VRow ((w.drewN n1).alloc (.cells (VC (some ⟨b, o, none⟩) L c n m 0 0 0 0 0) 78)) w.heap.size (some ⟨b, o, none⟩) L c n m 0 0 0 0 0 := heap_alloc_new (w.drewN n1) _
  have hb : Below w.heap.size w ((w.drewN n1).alloc (.cells (VC (some ⟨b, o, none⟩) L c n m 0 0 0 0 0) 78)) := (below_drewN (Below.refl _ _) _).alloc (Nat.le_refl _) _
  unfold VC at hv hb
  generalize (w.drewN n1).alloc (.cells #[.slice (some ⟨b, o, none⟩) L c, .int .i64 (n : Nat), .int .i64 (m : Nat), .int .i64 0, .int .i64 0, .int .i64 0, .int .i64 0, .int .i64 0] 78) = w2 at hv hb ⊢
  generalize hgv : w.heap.size = gv at hv
  have hgw : w.heap.size ≤ gv := Nat.le_of_eq hgv
  clear hgv
  have k1 : w2.cell? ⟨gv, 1, none⟩ = some (.int .i64 (n : Nat)) := cell_of_row w2 gv 1 _ _ _ hv
  have k2 : w2.cell? ⟨gv, 2, none⟩ = some (.int .i64 (m : Nat)) := cell_of_row w2 gv 2 _ _ _ hv
  have HV := Lib.hid hv
  have HB := Lib.hid hb
  clear hv hb H0 H4
  go_wp2_with fail
  go_quiet (fail)
  go_upto_region 8 with fail
  have hv2 := HV.out
  have hb2 := below_drewN HB.out nq
  have hv2 : VRow (w2.drewN nq) gv (some ⟨b, o, none⟩) L c n m 0 0 0 0 0 := HV.out
  clear k1 k2 HV HB
  generalize w2.drewN nq = w3 at hv2 hb2 ⊢
  have hlt := lt_of_block hv2
  refine wp_region_quiet_tail (fun w' => VRow w' gv (some ⟨b, o, none⟩) L c n m 0 0 0 0 0 ∧ Below w.heap.size w w') 12 (by kernel_rfl) (by kernel_rfl) ⟨hv2, Below.drew hb2⟩ ?_
  simp only [List.take_succ_cons, List.take_zero, List.drop_succ_cons, List.drop_zero]
  refine wq_val (.pointer (some ⟨gv, 0, none⟩)) rfl (fun w' _ => by simp [go_sem]) ?_
  refine wq_val (.pointer (some ⟨gv, 0, none⟩)) rfl (fun w' _ => by simp [go_sem]) ?_
  refine wq_val (.pointer (some ⟨gv, 0, none⟩)) rfl (fun w' _ => by simp [go_sem]) ?_
  simp only [go_sem, List.setIfInBounds_toArray, List.set_cons_succ, List.set_cons_zero]
  refine wq_val (.pointer (some ⟨gv, 1, none⟩)) rfl (fun w' _ => by simp [go_sem]) ?_
  refine wq_val (.int .i64 (n : Nat)) rfl (fun w' h => by have k1 : w'.cell? ⟨gv, 1, none⟩ = some (.int .i64 (n : Nat)) := cell_of_row w' gv 1 _ _ _ h.1
                                                          simp [go_sem, k1]) ?_
  simp only [go_sem, List.setIfInBounds_toArray, List.set_cons_succ, List.set_cons_zero]
  refine wq_val (.pointer (some ⟨gv, 0, none⟩)) rfl (fun w' _ => by simp [go_sem]) ?_
  refine wq_val (.pointer (some ⟨gv, 0, none⟩)) rfl (fun w' _ => by simp [go_sem]) ?_
  refine wq_val (.pointer (some ⟨gv, 2, none⟩)) rfl (fun w' _ => by simp [go_sem]) ?_
  simp only [go_sem, List.setIfInBounds_toArray, List.set_cons_succ, List.set_cons_zero]
  refine wq_val (.int .i64 (m : Nat)) rfl (fun w' h => by have k2 : w'.cell? ⟨gv, 2, none⟩ = some (.int .i64 (m : Nat)) := cell_of_row w' gv 2 _ _ _ h.1
                                                          simp [go_sem, k2]) ?_
  simp only [go_sem, List.setIfInBounds_toArray, List.set_cons_succ, List.set_cons_zero]
  refine wq_call (.agg #[.int .i64 8, .int .i64 (Gv : Nat), .int .i64 (Sv : Nat), .int .i64 (Mv : Nat), .int .i64 (Ev : Nat)]) 37 #[.int .i64 (n : Nat), .int .i64 (m : Nat)] rfl (fun w' => by simp [go_sem]) (fun w' h => (HCUT.out w').mono fun e w'' ⟨h1, h2⟩ => ⟨h1, (h2.block gv (lt_of_block h.1)).trans h.1, h.2.trans (h2.mono h.2.size)⟩) ?_
  refine wq_val (.pointer (some ⟨gv, 0, none⟩)) rfl (fun w' _ => by simp [go_sem]) ?_
  refine wq_val (.pointer (some ⟨gv, 3, none⟩)) rfl (fun w' _ => by simp [go_sem]) ?_
  simp only [go_sem, List.setIfInBounds_toArray, List.set_cons_succ, List.set_cons_zero]
  refine wpQuiet_nil ?_
  rintro w4 ⟨hv4, hb4⟩
  have c3 : w4.cell? ⟨gv, 3, none⟩ = some (.int .i64 0) := cell_of_row w4 gv 3 _ _ _ hv4
  have c4 : w4.cell? ⟨gv, 4, none⟩ = some (.int .i64 0) := cell_of_row w4 gv 4 _ _ _ hv4
  have c5 : w4.cell? ⟨gv, 5, none⟩ = some (.int .i64 0) := cell_of_row w4 gv 5 _ _ _ hv4
  have c6 : w4.cell? ⟨gv, 6, none⟩ = some (.int .i64 0) := cell_of_row w4 gv 6 _ _ _ hv4
  have c7 : w4.cell? ⟨gv, 7, none⟩ = some (.int .i64 0) := cell_of_row w4 gv 7 _ _ _ hv4
  have f3 : ∀ i, w4.frozen? ⟨gv, i, none⟩ = false := fun i => frozen_of_row w4 gv i _ _ hv4
  have hlt4 := lt_of_block hv4
  have HV4 := Lib.hid hv4
  have HB4 := Lib.hid hb4
  clear hv4 hb4 hv2 hb2 hlt
  go_upto_region 11 with fail
  have hv5 := ((((HV4.out.s3 8).s4 (Gv : Nat)).s5 (Sv : Nat)).s6 (Mv : Nat)).s7 (Ev : Nat)
  have hb5 : Below w.heap.size w (((((w4.setCell ⟨gv, 3, none⟩ (.int .i64 8)).setCell ⟨gv, 4, none⟩ (.int .i64 (Gv : Nat))).setCell ⟨gv, 5, none⟩ (.int .i64 (Sv : Nat))).setCell ⟨gv, 6, none⟩ (.int .i64 (Mv : Nat))).setCell ⟨gv, 7, none⟩ (.int .i64 (Ev : Nat))) :=
    ((((HB4.out.setCell (p := ⟨gv, 3, none⟩) hgw _).setCell (p := ⟨gv, 4, none⟩) hgw _).setCell (p := ⟨gv, 5, none⟩) hgw _).setCell (p := ⟨gv, 6, none⟩) hgw _).setCell (p := ⟨gv, 7, none⟩) hgw _
  generalize (((((w4.setCell ⟨gv, 3, none⟩ (.int .i64 8)).setCell ⟨gv, 4, none⟩ (.int .i64 (Gv : Nat))).setCell ⟨gv, 5, none⟩ (.int .i64 (Sv : Nat))).setCell ⟨gv, 6, none⟩ (.int .i64 (Mv : Nat))).setCell ⟨gv, 7, none⟩ (.int .i64 (Ev : Nat))) = w5 at hv5 hb5 ⊢
  have k7 : w5.cell? ⟨gv, 7, none⟩ = some (.int .i64 (Ev : Nat)) := cell_of_row w5 gv 7 _ _ _ hv5
  have HV5 := Lib.hid hv5
  have HB5 := Lib.hid hb5
  clear hv5 hb5 HV4 HB4 c3 c4 c5 c6 c7 f3 hlt4
  go_quiet (fail)
  go_wp2
  go_ret3
  exact ⟨gv, rfl, hgw, HV5.out, below_drewN HB5.out _⟩
theorem shape_ok (w : World) (a : Option Addr) (c : Nat) (bs : List UInt8) (hs : SlI .u8 w a bs.length c (nums bs)) (h8 : 8 ≤ bs.length) (hN : f4 bs 0 ≤ 67108864) (hm : f4 bs 4 ≤ f4 bs 0) (hE : oE (f4 bs 0) (f4 bs 4) ≤ bs.length) :
    Calls Try.prog 47 #[.slice a bs.length c] w fun e w' => ∃ gv, e = .returned (.tuple #[.pointer (some ⟨gv, 0, none⟩), .bool ((bs.length : Int) == (oE (f4 bs 0) (f4 bs 4) : Nat)), .nilIface]) ∧ w.heap.size ≤ gv ∧
      VRow w' gv a bs.length c (f4 bs 0) (f4 bs 4) 8 (oG (f4 bs 0) : Nat) (oS (f4 bs 0) : Nat) (oM (f4 bs 0) : Nat) (oE (f4 bs 0) (f4 bs 4) : Nat) ∧ Below w.heap.size w w' := by
  obtain ⟨b, o, rfl, _⟩ := hs.cell 0 (by omega)
  have s4 := hs.tail 4 (by omega)
  have hlen := hs.le
  rw [nums_drop, if_neg (by omega)] at s4
  simp only [Option.map_some, Addr.add_lit] at s4
  refine shape_go w b o bs.length c (f4 bs 0) (f4 bs 4) (oG (f4 bs 0)) (oS (f4 bs 0)) (oM (f4 bs 0)) (oE (f4 bs 0) (f4 bs 4)) h8 hlen hs.max hN hm hE (fun k => four_calls (w.drewN k) _ _ _ _ (hs.drewN k) (by omega)) (fun k => ?_) (fun w' => ?_)
  · have h := four_calls (w.drewN k) _ _ _ _ (s4.drewN k) (by omega)
    rw [f4_drop] at h
    exact h
  · have h := cut_calls (f4 bs 0 : Nat) (f4 bs 4 : Nat) w' (by omega) (by omega) (by omega) (by omega)
    rw [cutV_o] at h
    exact h
theorem vec_of {w : World} {gv : Nat} {a : Option Addr} {c : Nat} {bs : List UInt8} (h : VRow w gv a bs.length c (f4 bs 0) (f4 bs 4) 8 (oG (f4 bs 0) : Nat) (oS (f4 bs 0) : Nat) (oM (f4 bs 0) : Nat) (oE (f4 bs 0) (f4 bs 4) : Nat)) (hs : SlI .u8 w a bs.length c (nums bs)) (hN : f4 bs 0 ≤ 67108864) (hm : f4 bs 4 ≤ f4 bs 0) (hE : bs.length = oE (f4 bs 0) (f4 bs 4)) : VecAt w gv a c bs (f4 bs 0) (f4 bs 4) := ⟨h, hs, hE, hm, hN⟩
end Go.Proofs.Ytpphjiialgmidaa
