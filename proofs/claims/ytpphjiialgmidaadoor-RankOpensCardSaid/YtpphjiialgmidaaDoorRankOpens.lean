/- RankOpens: Open and View of any bytes: a vector, or the error and its place. -/
import Derived.Test.YtpphjiialgmidaaDoorRkRo
import Derived.Test.YtpphjiialgmidaaDoorFault2
import Derived.Test.YtpphjiialgmidaaDoorHe
import Derived.Test.YtpphjiialgmidaaDoorRkS
import Derived.Laws.StructEq
set_option linter.unusedVariables false
set_option linter.unusedSimpArgs false
namespace Go.Proofs.YtpphjiialgmidaaDoor
open Go.RowKit Go.Tk
theorem wq_valG {P : Program} {ops : Array Oper} {C : World → Prop} {Q : Act → Prop} {o : Oper} {rest : List Oper} {a : Act} (v : Value) (hg : Region.wanted o (yielded ops a.tmps) = true) (h : ∀ w, C w → (execOp a.eval o).run P w = .ok (.value v) w) (hk : wpQuiet P ops C Q rest (a.put o.dst v)) : wpQuiet P ops C Q (o :: rest) a := by
  show if Region.wanted o (yielded ops a.tmps) then o.quiet P a C (wpQuiet P ops C Q rest) else wpQuiet P ops C Q rest (a.put o.dst undef)
  rw [if_pos hg]
  exact ⟨v, fun w hw => by unfold Oper.quietAt; rw [h w hw]; exact ⟨rfl, rfl⟩, hk⟩
theorem wq_callG {P : Program} {ops : Array Oper} {C : World → Prop} {Q : Act → Prop} {o : Oper} {rest : List Oper} {a : Act} (v : Value) (f : FuncId) (args : Array Value) (hg : Region.wanted o (yielded ops a.tmps) = true) (he : ∀ w, (execOp a.eval o).run P w = .ok (.enter f args) w) (hc : ∀ w, C w → Calls P f args w fun e w' => e = .returned v ∧ C w')
    (hk : wpQuiet P ops C Q rest (a.put o.dst v)) : wpQuiet P ops C Q (o :: rest) a := by
  show if Region.wanted o (yielded ops a.tmps) then o.quiet P a C (wpQuiet P ops C Q rest) else wpQuiet P ops C Q rest (a.put o.dst undef)
  rw [if_pos hg]
  exact ⟨v, fun w hw => by unfold Oper.quietAt; rw [he w]; exact ⟨rfl, hc w hw⟩, hk⟩
theorem fl_fields : Tryd.prog.underlying 30 = some (.struct (Tryd.prog.fieldsOf 30)) := by kernel_rfl
theorem fl_stood : Tryd.prog.stoodInHeld 30 = false := by kernel_rfl
theorem fl_guard : Tryd.prog.eqGuardType Tryd.prog.depth 30 = false := by kernel_rfl
theorem fl_eql (x y : Int) (w : World) : (binOp .eql 30 (.agg #[.int .i64 x, .int .i64 y]) (.agg #[.int .i64 x, .int .i64 y])).run Tryd.prog w = .ok (.bool true) w := by
  rw [run_eql_struct, run_equalIn_agg w 9999 _ _ _ fl_fields fl_stood]
  unfold Program.fieldsOf
  rw [Tryd.underlying30]
  simp [go_sem, Op.eqFields, part]
theorem fl_guarded (op : BinOp) (x y : Operand) (p q : Array Value) (w : World) : (eqGuard op 30 x y (.agg p) (.agg q)).run Tryd.prog w = .ok () w := run_eqGuard_agg w op _ x y p q fl_guard
theorem fault_calls (w : World) (v : Value) (x y : Int) (hg : HandleMet w) (h : EV w v x y) :
    Calls Tryd.prog 9 #[v] w fun e w' => e = .returned (.agg #[.int .i64 x, .int .i64 y]) ∧ Below w.heap.size w w' := by
  rcases h with ⟨rfl, rfl, rfl⟩ | ⟨b, _, rfl, h2⟩
  · exact fault_nil w
  · exact fault_err x y b w hg h2
/-- What stands while the answers are compared. -/
structure OpC (w0 : World) (v1 v2 : Value) (x y x2 y2 : Int) (gf gg g0 : Nat) (a : Option Addr) (c : Nat) (bs : List UInt8) (w : World) : Prop where
  hm : HandleMet w
  e1 : EV w v1 x y
  e2 : EV w v2 x2 y2
  rf : w.heap[gf]? = some (.cells #[.int .i64 x, .int .i64 y] 30 (0, 0))
  rg : w.heap[gg]? = some (.cells #[.int .i64 x2, .int .i64 y2] 30 (0, 0))
  ro : RowI .u8 5 w g0 (nums bs ++ [171, 172])
  sl : SlI .u8 w a bs.length c (nums bs)
  bl : Below w0.heap.size w0 w
theorem OpC.step {w0 v1 v2 x y x2 y2 gf gg g0 a c bs w w'} (h : OpC w0 v1 v2 x y x2 y2 gf gg g0 a c bs w) (hb : Below w.heap.size w w') : OpC w0 v1 v2 x y x2 y2 gf gg g0 a c bs w' :=
  ⟨h.hm.below hb h.hm.pos, h.e1.below hb, h.e2.below hb, (hb.block _ (lt_of_block h.rf)).trans h.rf, (hb.block _ (lt_of_block h.rg)).trans h.rg, h.ro.below hb h.ro.lt, h.sl.keep hb, h.bl.trans (hb.mono h.bl.size)⟩
set_option maxRecDepth 100000 in
set_option maxHeartbeats 8000000 in
theorem opens_go (w : World) (a : Option Addr) (c : Nat) (bs : List UInt8) (h : SlI .u8 w a bs.length c (nums bs)) (hbl : bs.length ≤ 140737488351232) (hg : HandleMet w) :
    Calls Tryd.prog 3 #[.slice a bs.length c] w fun e w' => e = .returned (.bool true) ∧ Below w.heap.size w w' := by
  have hlen := lent_calls w a bs.length c (nums bs) h hbl
  have H := Lib.hid h
  have HLEN := Lib.hid hlen
  have HG := Lib.hid hg
  have HI := Lib.hid Tryd.sizeFl
  clear h hlen hg
  go_enter Tryd.func3, Tryd.ntmps3
  go_upto_region 2 with (go_at_call 4; (with_reducible refine HLEN.out.mono ?_); rintro e w2 ⟨rfl, hf⟩; (have HF := Lib.hid hf); clear hf)
  have ho := HF.out.row
  have hb2 := HF.out.below
  generalize hgg : w.heap.size = g0 at ho ⊢
  have hgle : w.heap.size ≤ g0 := Nat.le_of_eq hgg
  have HO := Lib.hid ho
  have HB2 := Lib.hid hb2
  have HGG := Lib.hid hgg
  clear ho hb2 hgg HF HLEN
  have HOP := Lib.hid (open_any w2 (some ⟨g0, 0, none⟩) (bs.length + 2) bs (own_sl HO.out (by rw [nums_len]) hbl))
  go_upto_region 3 with (go_at_call 5; (with_reducible refine HOP.out.mono ?_); rintro e w3 ⟨p, v, x, y, rfl, hR, hev, hb, hc⟩; (have HR := Lib.hid hR); (have HE1 := Lib.hid hev); (have HB3 := Lib.hid (HB2.out.trans (hb.mono HB2.out.size))); (have HO3 := Lib.hid (HO.out.below hb HO.out.lt)); (have HC := Lib.hid (show (y ≠ 0 ∧ p = none) ∨ (y = 0 ∧ ∃ gv, p = some ⟨gv, 0, none⟩) by rcases hc with h | ⟨h1, gv, h2, _⟩; exact .inl h; exact .inr ⟨h1, gv, h2⟩)); clear hR hev hb hc)
  clear HOP HB2 HO
  have HVW := Lib.hid (view_any w3 (some ⟨g0, 0, none⟩) (bs.length + 2) bs (own_sl HO3.out (by rw [nums_len]) hbl))
  go_upto_region 4 with (go_at_call 6; (with_reducible refine HVW.out.mono ?_); rintro e w4 ⟨p2, v2, rfl, hev, hb, hc⟩; (have HE2 := Lib.hid hev); (have HE14 := Lib.hid (HE1.out.below hb)); (have HB4 := Lib.hid (HB3.out.trans (hb.mono HB3.out.size))); (have HO4 := Lib.hid (HO3.out.below hb HO3.out.lt)); (have HC2 := Lib.hid (show ((fV bs).2 ≠ 0 ∧ p2 = none) ∨ ((fV bs).2 = 0 ∧ ∃ gv, p2 = some ⟨gv, 0, none⟩) by rcases hc with h | ⟨h1, gv, h2, _⟩; exact .inl h; exact .inr ⟨h1, gv, h2⟩)); clear hev hb hc)
  clear HVW HB3 HO3 HE1
  have HRO := Lib.hid (ropen_calls w4 a c bs (H.out.keep HB4.out))
  go_upto_region 5 with (go_at_call 7; (with_reducible refine HRO.out.mono ?_); rintro e w5 ⟨xq, yq, rfl, hQ, hb⟩; (obtain ⟨hxx, hyy⟩ := open_same HR.out hQ); subst hxx; subst hyy; (have HE25 := Lib.hid (HE2.out.below hb)); (have HE15 := Lib.hid (HE14.out.below hb)); (have HB5 := Lib.hid (HB4.out.trans (hb.mono HB4.out.size))); (have HO5 := Lib.hid (HO4.out.below hb HO4.out.lt)); clear hb hQ)
  clear HRO HE2 HE14 HB4 HO4
  have hrf : (w5.alloc (.cells #[.int .i64 (x : Nat), .int .i64 (y : Nat)] 30)).heap[w5.heap.size]? = some (.cells #[.int .i64 (x : Nat), .int .i64 (y : Nat)] 30 (0, 0)) := heap_alloc_new w5 _
  have hb56 : Below w5.heap.size w5 (w5.alloc (.cells #[.int .i64 (x : Nat), .int .i64 (y : Nat)] 30)) := (Below.refl _ _).alloc (Nat.le_refl _) _
  generalize w5.alloc (.cells #[.int .i64 (x : Nat), .int .i64 (y : Nat)] 30) = w6 at hrf hb56 ⊢
  generalize w5.heap.size = gf at hrf ⊢
  have HRF := Lib.hid hrf
  have HE26 := Lib.hid (HE25.out.below hb56)
  have HE16 := Lib.hid (HE15.out.below hb56)
  have HB6 := Lib.hid (HB5.out.trans (hb56.mono HB5.out.size))
  have HO6 := Lib.hid (HO5.out.below hb56 HO5.out.lt)
  clear hrf hb56 HE25 HE15 HB5 HO5
  have HRV := Lib.hid (rview_calls w6 a c bs (H.out.keep HB6.out))
  obtain ⟨x2, hx2⟩ : ∃ x2, x2 = (fV bs).1 := ⟨_, rfl⟩
  obtain ⟨y2, hy2⟩ : ∃ y2, y2 = (fV bs).2 := ⟨_, rfl⟩
  rw [← hx2, ← hy2] at HRV HE26
  rw [← hy2] at HC2
  clear hx2 hy2
  go_upto_region 6 with (go_at_call 8; (with_reducible refine HRV.out.mono ?_); rintro e w7 ⟨rfl, hb⟩; (have HE27 := Lib.hid (HE26.out.below hb)); (have HE17 := Lib.hid (HE16.out.below hb)); (have HB7 := Lib.hid (HB6.out.trans (hb.mono HB6.out.size))); (have HO7 := Lib.hid (HO6.out.below hb HO6.out.lt)); (have HRF7 := Lib.hid ((hb.block _ (lt_of_block HRF.out)).trans HRF.out)); clear hb)
  clear HRV HE26 HE16 HB6 HO6 HRF
  have hrg : (w7.alloc (.cells #[.int .i64 (x2 : Nat), .int .i64 (y2 : Nat)] 30)).heap[w7.heap.size]? = some (.cells #[.int .i64 (x2 : Nat), .int .i64 (y2 : Nat)] 30 (0, 0)) := heap_alloc_new w7 _
  have hb78 : Below w7.heap.size w7 (w7.alloc (.cells #[.int .i64 (x2 : Nat), .int .i64 (y2 : Nat)] 30)) := (Below.refl _ _).alloc (Nat.le_refl _) _
  generalize w7.alloc (.cells #[.int .i64 (x2 : Nat), .int .i64 (y2 : Nat)] 30) = w8 at hrg hb78 ⊢
  have hc8 : OpC w v v2 (x : Nat) (y : Nat) (x2 : Nat) (y2 : Nat) gf w7.heap.size g0 a c bs w8 := by
    have hb8 := HB7.out.trans (hb78.mono HB7.out.size)
    exact ⟨HG.out.below hb8 HG.out.pos, HE17.out.below hb78, HE27.out.below hb78, (hb78.block _ (lt_of_block HRF7.out)).trans HRF7.out, hrg, HO7.out.below hb78 HO7.out.lt, H.out.keep hb8, hb8⟩
  generalize w7.heap.size = gg at hc8 ⊢
  clear hrg hb78 HB7 HO7 HRF7 HE17 HE27 HG
  refine wp_region_quiet_all (OpC w v v2 (x : Nat) (y : Nat) (x2 : Nat) (y2 : Nat) gf gg g0 a c bs) (by kernel_rfl) (by kernel_rfl) (hc8.step (Below.drew (Below.refl _ _))) ?_
  clear hc8
  obtain ⟨b1, hb1, hb1'⟩ : ∃ b1 : Bool, (∀ w' : World, (binOp .neq 24 (.pointer p) (.pointer none)).run Tryd.prog w' = .ok (.bool b1) w') ∧ b1 = ((y : Int) == 0) := by
    rcases HC.out with ⟨h1, rfl⟩ | ⟨h1, gv, rfl⟩
    · exact ⟨false, fun w' => by kernel_rfl, by simp; omega⟩
    · exact ⟨true, fun w' => by kernel_rfl, by simp; omega⟩
  obtain ⟨b2, hb2, hb2'⟩ : ∃ b2 : Bool, (∀ w' : World, (binOp .neq 24 (.pointer p2) (.pointer none)).run Tryd.prog w' = .ok (.bool b2) w') ∧ b2 = ((y2 : Int) == 0) := by
    rcases HC2.out with ⟨h1, rfl⟩ | ⟨h1, gv, rfl⟩
    · exact ⟨false, fun w' => by kernel_rfl, by simp; omega⟩
    · exact ⟨true, fun w' => by kernel_rfl, by simp; omega⟩
  clear HC HC2
  refine wq_val (v) rfl (fun w' h => by simp [go_sem]) ?_
  refine wq_call (.agg #[.int .i64 (x : Nat), .int .i64 (y : Nat)]) _ _ rfl (fun w' => by simp [go_sem]) (fun w' h => (fault_calls w' v _ _ h.hm h.e1).mono fun _ w'' ⟨h1, h2⟩ => ⟨h1, h.step h2⟩) ?_
  refine wq_row rfl 30 _ rfl gf rfl _ #[.int .i64 (x : Nat), .int .i64 (y : Nat)] _ _ (fun w' h => h.rf) Tryd.underlying30 rfl HI.out ?_
  refine wq_val (.bool true) rfl (fun w' _ => by have h1 := fl_eql (x : Nat) (y : Nat) w'; have h2 := fl_guarded; simp [go_sem, h1, h2]) ?_
  simp only [go_sem, List.setIfInBounds_toArray, List.set_cons_succ, List.set_cons_zero]
  refine wq_val (.bool true) rfl (fun w' h => by simp [go_sem]) ?_
  simp only [go_sem, List.setIfInBounds_toArray, List.set_cons_succ, List.set_cons_zero]
  refine wq_valG (v2) (by simp [Region.wanted, yielded]) (fun w' h => by simp [go_sem]) ?_
  simp only [go_sem, List.setIfInBounds_toArray, List.set_cons_succ, List.set_cons_zero]
  refine wq_callG (.agg #[.int .i64 (x2 : Nat), .int .i64 (y2 : Nat)]) _ _ (by simp [Region.wanted, yielded]) (fun w' => by simp [go_sem]) (fun w' h => (fault_calls w' v2 _ _ h.hm h.e2).mono fun _ w'' ⟨h1, h2⟩ => ⟨h1, h.step h2⟩) ?_
  simp only [go_sem, List.setIfInBounds_toArray, List.set_cons_succ, List.set_cons_zero]
  refine wq_valG (.agg #[.int .i64 (x2 : Nat), .int .i64 (y2 : Nat)]) (by simp [Region.wanted, yielded]) (fun w' h => run_load_row 30 _ rfl gg rfl 30 _ _ _ w' h.rg Tryd.underlying30 rfl HI.out) ?_
  simp only [go_sem, List.setIfInBounds_toArray, List.set_cons_succ, List.set_cons_zero]
  refine wq_valG (.bool true) (by simp [Region.wanted, yielded]) (fun w' _ => by have h1 := fl_eql (x2 : Nat) (y2 : Nat) w'; have h2 := fl_guarded; simp [go_sem, h1, h2]) ?_
  simp only [go_sem, List.setIfInBounds_toArray, List.set_cons_succ, List.set_cons_zero]
  refine wq_val (.bool true) rfl (fun w' h => by simp [go_sem]) ?_
  simp only [go_sem, List.setIfInBounds_toArray, List.set_cons_succ, List.set_cons_zero]
  refine wq_val (.bool true) rfl (fun w' h => by simp [go_sem]) ?_
  simp only [go_sem, List.setIfInBounds_toArray, List.set_cons_succ, List.set_cons_zero]
  refine wq_valG (.pointer p) (by simp [Region.wanted, yielded]) (fun w' h => by simp [go_sem]) ?_
  simp only [go_sem, List.setIfInBounds_toArray, List.set_cons_succ, List.set_cons_zero]
  refine wq_valG (.bool b1) (by simp [Region.wanted, yielded]) (fun w' h => by have h1 := hb1 w'; simp [go_sem] at h1 ⊢; first | exact h1 | simp [h1]) ?_
  simp only [go_sem, List.setIfInBounds_toArray, List.set_cons_succ, List.set_cons_zero]
  refine wq_valG (.pointer (some ⟨gf, 1, none⟩)) (by simp [Region.wanted, yielded]) (fun w' h => by simp [go_sem]) ?_
  simp only [go_sem, List.setIfInBounds_toArray, List.set_cons_succ, List.set_cons_zero]
  refine wq_valG (.int .i64 (y : Nat)) (by simp [Region.wanted, yielded]) (fun w' h => by have k1 : w'.cell? ⟨gf, 1, none⟩ = some (.int .i64 (y : Nat)) := cell_of_row w' gf 1 _ _ _ h.rf; simp [go_sem, k1]) ?_
  simp only [go_sem, List.setIfInBounds_toArray, List.set_cons_succ, List.set_cons_zero]
  refine wq_valG (.bool b1) (by simp [Region.wanted, yielded]) (fun w' h => by rw [hb1']; simp [go_sem]) ?_
  simp only [go_sem, List.setIfInBounds_toArray, List.set_cons_succ, List.set_cons_zero]
  refine wq_valG (.bool true) (by simp [Region.wanted, yielded]) (fun w' h => by simp [go_sem]) ?_
  simp only [go_sem, List.setIfInBounds_toArray, List.set_cons_succ, List.set_cons_zero]
  refine wq_val (.bool true) rfl (fun w' h => by simp [go_sem]) ?_
  simp only [go_sem, List.setIfInBounds_toArray, List.set_cons_succ, List.set_cons_zero]
  refine wq_val (.bool true) rfl (fun w' h => by simp [go_sem]) ?_
  simp only [go_sem, List.setIfInBounds_toArray, List.set_cons_succ, List.set_cons_zero]
  refine wq_valG (.pointer p2) (by simp [Region.wanted, yielded]) (fun w' h => by simp [go_sem]) ?_
  simp only [go_sem, List.setIfInBounds_toArray, List.set_cons_succ, List.set_cons_zero]
  refine wq_valG (.bool b2) (by simp [Region.wanted, yielded]) (fun w' h => by have h1 := hb2 w'; simp [go_sem] at h1 ⊢; first | exact h1 | simp [h1]) ?_
  simp only [go_sem, List.setIfInBounds_toArray, List.set_cons_succ, List.set_cons_zero]
  refine wq_valG (.pointer (some ⟨gg, 1, none⟩)) (by simp [Region.wanted, yielded]) (fun w' h => by simp [go_sem]) ?_
  simp only [go_sem, List.setIfInBounds_toArray, List.set_cons_succ, List.set_cons_zero]
  refine wq_valG (.int .i64 (y2 : Nat)) (by simp [Region.wanted, yielded]) (fun w' h => by have k1 : w'.cell? ⟨gg, 1, none⟩ = some (.int .i64 (y2 : Nat)) := cell_of_row w' gg 1 _ _ _ h.rg; simp [go_sem, k1]) ?_
  simp only [go_sem, List.setIfInBounds_toArray, List.set_cons_succ, List.set_cons_zero]
  refine wq_valG (.bool b2) (by simp [Region.wanted, yielded]) (fun w' h => by rw [hb2']; simp [go_sem]) ?_
  simp only [go_sem, List.setIfInBounds_toArray, List.set_cons_succ, List.set_cons_zero]
  refine wq_valG (.bool true) (by simp [Region.wanted, yielded]) (fun w' h => by simp [go_sem]) ?_
  simp only [go_sem, List.setIfInBounds_toArray, List.set_cons_succ, List.set_cons_zero]
  refine wq_val (.bool true) rfl (fun w' h => by simp [go_sem]) ?_
  simp only [go_sem, List.setIfInBounds_toArray, List.set_cons_succ, List.set_cons_zero]
  refine wq_val (.bool true) rfl (fun w' h => by simp [go_sem]) ?_
  simp only [go_sem, List.setIfInBounds_toArray, List.set_cons_succ, List.set_cons_zero]
  refine wq_valG (.slice (some ⟨g0, 0, none⟩) bs.length (bs.length + 2)) (by simp [Region.wanted, yielded]) (fun w' h => by simp [go_sem]) ?_
  simp only [go_sem, List.setIfInBounds_toArray, List.set_cons_succ, List.set_cons_zero]
  refine wq_valG (.slice a bs.length c) (by simp [Region.wanted, yielded]) (fun w' h => by simp [go_sem]) ?_
  simp only [go_sem, List.setIfInBounds_toArray, List.set_cons_succ, List.set_cons_zero]
  refine wq_callG (.bool true) _ _ (by simp [Region.wanted, yielded]) (fun w' => by simp [go_sem]) (fun w' h => (back_calls w' g0 a bs.length c (nums bs) h.ro h.sl hbl).mono fun _ w'' ⟨h1, q, h2⟩ => ⟨h1, by rw [h2]; exact h.step (below_drewN (Below.refl _ _) q)⟩) ?_
  simp only [go_sem, List.setIfInBounds_toArray, List.set_cons_succ, List.set_cons_zero]
  refine wq_val (.bool true) rfl (fun w' h => by simp [go_sem]) ?_
  simp only [go_sem, List.setIfInBounds_toArray, List.set_cons_succ, List.set_cons_zero]
  refine wq_val (.bool true) rfl (fun w' h => by simp [go_sem]) ?_
  simp only [go_sem, List.setIfInBounds_toArray, List.set_cons_succ, List.set_cons_zero]
  refine wpQuiet_nil ?_
  rintro w9 h9
  go_wp2_with fail
  go_ret
  exact ⟨rfl, h9.bl⟩
end Go.Proofs.YtpphjiialgmidaaDoor
