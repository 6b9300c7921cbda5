/- RankAnswers: every answer of two vectors, by Open and by View. -/
import Derived.Test.YtpphjiialgmidaaRkAs
import Derived.Test.YtpphjiialgmidaaAsks
import Derived.Test.YtpphjiialgmidaaHe
import Derived.Test.YtpphjiialgmidaaRkS
set_option linter.unusedVariables false
set_option linter.unusedSimpArgs false
namespace Go.Tk
open Go
/-- A call whose value is known by what holds of it. -/
theorem wh_callx {P : Program} {ops : Array Oper} {Q : Exit → Act → World → Prop} {md : Region.Mode} {S : World → Prop} (i : Nat) (R : Value → World → Prop) {o : Oper} {fuel : Nat} {listed : Array Bool} {a : Act} {w : World} {f : FuncId} {args : Array Value} (hi : ops[i]? = some o) (hg : o.guard = none) (hr : Region.ready md ops listed = [i])
    (he : (execOp a.eval o).run P w = .ok (.enter f args) w) (hc : Calls P f args w fun e w' => ∃ v, e = .returned v ∧ R v w') (hS : ∀ v w', R v w' → S w')
    (h : ∀ v w', R v w' → wpAnyH P md ops Q S fuel (listed.setIfInBounds i true) (a.put o.dst v) w') : wpAnyH P md ops Q S (fuel + 1) listed a w := by
  refine wpAnyH_all hr (by simp) fun j hj => ?_
  obtain rfl : j = i := by simpa using hj
  unfold Go.wpOp
  simp only [hi, wanted_free (ops := ops) (x := a.tmps) hg, if_true, Oper.wp, he, Oper.upon]
  refine .inl (hc.mono ?_)
  rintro e w' ⟨v, rfl, hR⟩
  exact ⟨hS v w' hR, h v w' hR⟩
end Go.Tk
namespace Go.Proofs.Ytpphjiialgmidaa
open Go.RowKit Go.Tk
/-- The five arrays of the statement's own. -/
structure AR (w0 W : World) (b : Nat) (x9 x10 x11 x12 x13 : Array Value) : Prop where
  r9 : W.heap[b]? = some (.cells x9 36 (0, 0))
  r10 : W.heap[b + 1]? = some (.cells x10 38 (0, 0))
  r11 : W.heap[b + 2]? = some (.cells x11 38 (0, 0))
  r12 : W.heap[b + 3]? = some (.cells x12 39 (0, 0))
  r13 : W.heap[b + 4]? = some (.cells x13 39 (0, 0))
  bl : Below w0.heap.size w0 W
  bb : w0.heap.size ≤ b
theorem AR.below {w0 W W' b x9 x10 x11 x12 x13} (h : AR w0 W b x9 x10 x11 x12 x13) (hb : Below W.heap.size W W') : AR w0 W' b x9 x10 x11 x12 x13 :=
  ⟨(hb.block _ (lt_of_block h.r9)).trans h.r9, (hb.block _ (lt_of_block h.r10)).trans h.r10, (hb.block _ (lt_of_block h.r11)).trans h.r11, (hb.block _ (lt_of_block h.r12)).trans h.r12, (hb.block _ (lt_of_block h.r13)).trans h.r13, h.bl.trans (hb.mono h.bl.size), h.bb⟩
theorem AR.s13 {w0 W b x9 x10 x11 x12 x13} (h : AR w0 W b x9 x10 x11 x12 x13) (i : Nat) (v : Value) : AR w0 (W.setCell ⟨b + 4, i, none⟩ v) b x9 x10 x11 x12 (x13.setIfInBounds i v) :=
  ⟨(heap_setCell_other _ _ _ _ (by simp)).trans h.r9, (heap_setCell_other _ _ _ _ (by simp)).trans h.r10, (heap_setCell_other _ _ _ _ (by simp)).trans h.r11, (heap_setCell_other _ _ _ _ (by simp)).trans h.r12, heap_setCell_same W _ i _ _ _ h.r13, h.bl.setCell (p := ⟨b + 4, i, none⟩) (by have := h.bb; simp only; omega) v, h.bb⟩
theorem AR.s12 {w0 W b x9 x10 x11 x12 x13} (h : AR w0 W b x9 x10 x11 x12 x13) (i : Nat) (v : Value) : AR w0 (W.setCell ⟨b + 3, i, none⟩ v) b x9 x10 x11 (x12.setIfInBounds i v) x13 :=
  ⟨(heap_setCell_other _ _ _ _ (by simp)).trans h.r9, (heap_setCell_other _ _ _ _ (by simp)).trans h.r10, (heap_setCell_other _ _ _ _ (by simp)).trans h.r11, heap_setCell_same W _ i _ _ _ h.r12, (heap_setCell_other _ _ _ _ (by simp)).trans h.r13, h.bl.setCell (p := ⟨b + 3, i, none⟩) (by have := h.bb; simp only; omega) v, h.bb⟩
theorem AR.s10 {w0 W b x9 x10 x11 x12 x13} (h : AR w0 W b x9 x10 x11 x12 x13) (i : Nat) (v : Value) : AR w0 (W.setCell ⟨b + 1, i, none⟩ v) b x9 (x10.setIfInBounds i v) x11 x12 x13 :=
  ⟨(heap_setCell_other _ _ _ _ (by simp)).trans h.r9, heap_setCell_same W _ i _ _ _ h.r10, (heap_setCell_other _ _ _ _ (by simp)).trans h.r11, (heap_setCell_other _ _ _ _ (by simp)).trans h.r12, (heap_setCell_other _ _ _ _ (by simp)).trans h.r13, h.bl.setCell (p := ⟨b + 1, i, none⟩) (by have := h.bb; simp only; omega) v, h.bb⟩
theorem AR.s11 {w0 W b x9 x10 x11 x12 x13} (h : AR w0 W b x9 x10 x11 x12 x13) (i : Nat) (v : Value) : AR w0 (W.setCell ⟨b + 2, i, none⟩ v) b x9 x10 (x11.setIfInBounds i v) x12 x13 :=
  ⟨(heap_setCell_other _ _ _ _ (by simp)).trans h.r9, (heap_setCell_other _ _ _ _ (by simp)).trans h.r10, heap_setCell_same W _ i _ _ _ h.r11, (heap_setCell_other _ _ _ _ (by simp)).trans h.r12, (heap_setCell_other _ _ _ _ (by simp)).trans h.r13, h.bl.setCell (p := ⟨b + 2, i, none⟩) (by have := h.bb; simp only; omega) v, h.bb⟩
/-- One vector, opened and seen. -/
structure VR (b : Nat) (W : World) (n : Nat) (l : List Bool) (bs : List UInt8) (go gv gs : Nat) (aw : Option Addr) (cw : Nat) : Prop where
  hbs : bs = whB (packB l) n
  vo : VecAt W gv (some ⟨go, 0, none⟩) (bs.length + 2) bs n (cntB (packB l) n)
  vs : VecAt W gs (some ⟨go, 0, none⟩) (bs.length + 2) bs n (cntB (packB l) n)
  ro : RowI .u8 5 W go (nums bs ++ [171, 172])
  sw : SlI .u8 W aw bs.length cw (nums bs)
  o1 : b + 5 ≤ go
  o2 : b + 5 ≤ gv
  o3 : b + 5 ≤ gs
  o4 : ∀ x, aw = some x → b + 5 ≤ x.block
  hl : l.length = n
theorem row_keptS {S : Nat → Prop} {k : IntKind} {e : TypeId} {w w' : World} {g : Nat} {zs : List Int} (h : RowI k e w g zs) (hk : Kept S w w') (hne : ¬ S g) : RowI k e w' g zs := (hk.block g h.lt hne).trans h
theorem VecAt.kept {S : Nat → Prop} {w w' gv a c bs n m} (h : VecAt w gv a c bs n m) (hk : Kept S w w') (h1 : ¬ S gv) (h2 : ∀ x, a = some x → ¬ S x.block) : VecAt w' gv a c bs n m := ⟨(hk.block gv (lt_of_block h.row) h1).trans h.row, h.sl.kept hk h2, h.fit, h.mn, h.nN⟩
theorem VR.kept {S : Nat → Prop} {b W W' n l bs go gv gs aw cw} (h : VR b W n l bs go gv gs aw cw) (hk : Kept S W W') (hS : ∀ j, S j → j < b + 5) : VR b W' n l bs go gv gs aw cw := by
  have k1 : ¬ S go := fun e => by have := hS _ e; have := h.o1; omega
  have k2 : ¬ S gv := fun e => by have := hS _ e; have := h.o2; omega
  have k3 : ¬ S gs := fun e => by have := hS _ e; have := h.o3; omega
  refine ⟨h.hbs, h.vo.kept hk k2 (fun x hx => by cases hx; exact k1), h.vs.kept hk k3 (fun x hx => by cases hx; exact k1), row_keptS h.ro hk k1, h.sw.kept hk (fun x hx e => ?_), h.o1, h.o2, h.o3, h.o4, h.hl⟩
  have := hS _ e
  have := h.o4 x hx
  omega
theorem VR.below {b W W' n l bs go gv gs aw cw} (h : VR b W n l bs go gv gs aw cw) (hb : Below W.heap.size W W') : VR b W' n l bs go gv gs aw cw := h.kept (Kept.none_of_below hb) (fun _ e => False.elim e)
theorem VR.set {b W n l bs go gv gs aw cw} (h : VR b W n l bs go gv gs aw cw) (k i : Nat) (hk : k < 5) (v : Value) : VR b (W.setCell ⟨b + k, i, none⟩ v) n l bs go gv gs aw cw :=
  h.kept (kept_set (Kept.refl (fun j => j = b + k) W) i v) (fun j e => by omega)
theorem kept_sl {S : Nat → Prop} {k : IntKind} {w w' : World} {a : Option Addr} {n c : Nat} {zs : List Int} (h : SlI k w a n c zs) (hk : Kept S w w') (ha : ∀ x, a = some x → ¬ S x.block) : SlI k w' a n c zs := h.kept hk ha
theorem fz_row {W : World} {g i : Nat} {x : Array Value} {t : TypeId} (h : W.heap[g]? = some (.cells x t (0, 0))) : W.frozen? ⟨g, i, none⟩ = false := frozen_of_row W g i _ _ h
set_option maxRecDepth 100000 in
set_option maxHeartbeats 16000000 in
theorem answers_go (w : World) (a0 : Option Addr) (n0 c0 : Nat) (l0 : List Bool) (h0 : SlB w a0 n0 c0 l0) (a1 : Option Addr) (n1 c1 : Nat) (l1 : List Bool) (h1 : SlB w a1 n1 c1 l1) (a2 : Option Addr) (n2 c2 : Nat) (asks : Nat → AskV) (h2 : AsksAt w a2 n2 c2 asks) (a3 : Option Addr) (n3 c3 : Nat) (l3 : List Bool) (h3 : SlB w a3 n3 c3 l3) (hk0 : c0 ≤ 140737488351232) (hk1 : c1 ≤ 140737488351232) :
    Calls Try.prog 5 #[.slice a0 n0 c0, .slice a1 n1 c1, .slice a2 n2 c2, .slice a3 n3 c3] w fun e w' => e = .returned (.bool true) ∧ Below w.heap.size w w' := by
  have hn0 := h0.le
  have hn1 := h1.le
  have H0 := Lib.hid h0
  have H1 := Lib.hid h1
  have H2 := Lib.hid h2
  have H3 := Lib.hid h3
  clear h0 h1 h2 h3
  have hnew : ∀ (W : World), True := fun _ => trivial
  clear hnew
  go_enter Try.func5, Try.ntmps5
  go_wp2_with fail
  have ha : AR w (((((w.alloc (.cells #[.slice a0 n0 c0, .slice a1 n1 c1] 36)).alloc (.cells #[.pointer none, .pointer none] 38)).alloc (.cells #[.pointer none, .pointer none] 38)).alloc (.cells #[.slice none 0 0, .slice none 0 0] 39)).alloc (.cells #[.slice none 0 0, .slice none 0 0] 39)) w.heap.size #[.slice a0 n0 c0, .slice a1 n1 c1] #[.pointer none, .pointer none] #[.pointer none, .pointer none] #[.slice none 0 0, .slice none 0 0] #[.slice none 0 0, .slice none 0 0] := by
    refine ⟨?_, ?_, ?_, ?_, ?_, ?_, Nat.le_refl _⟩
    · exact (Below.heap_alloc _ _ _ (by simp <;> omega)).trans ((Below.heap_alloc _ _ _ (by simp <;> omega)).trans ((Below.heap_alloc _ _ _ (by simp <;> omega)).trans ((Below.heap_alloc _ _ _ (by simp <;> omega)).trans (heap_alloc_new _ _))))
    · refine (Below.heap_alloc _ _ _ (by simp <;> omega)).trans ((Below.heap_alloc _ _ _ (by simp <;> omega)).trans ((Below.heap_alloc _ _ _ (by simp <;> omega)).trans ?_))
      have := heap_alloc_new (w.alloc (.cells #[.slice a0 n0 c0, .slice a1 n1 c1] 36)) (.cells #[.pointer none, .pointer none] 38)
      simpa using this
    · refine (Below.heap_alloc _ _ _ (by simp <;> omega)).trans ((Below.heap_alloc _ _ _ (by simp <;> omega)).trans ?_)
      have := heap_alloc_new ((w.alloc (.cells #[.slice a0 n0 c0, .slice a1 n1 c1] 36)).alloc (.cells #[.pointer none, .pointer none] 38)) (.cells #[.pointer none, .pointer none] 38)
      simpa [Nat.add_assoc] using this
    · refine (Below.heap_alloc _ _ _ (by simp <;> omega)).trans ?_
      have := heap_alloc_new (((w.alloc (.cells #[.slice a0 n0 c0, .slice a1 n1 c1] 36)).alloc (.cells #[.pointer none, .pointer none] 38)).alloc (.cells #[.pointer none, .pointer none] 38)) (.cells #[.slice none 0 0, .slice none 0 0] 39)
      simpa [Nat.add_assoc] using this
    · have := heap_alloc_new ((((w.alloc (.cells #[.slice a0 n0 c0, .slice a1 n1 c1] 36)).alloc (.cells #[.pointer none, .pointer none] 38)).alloc (.cells #[.pointer none, .pointer none] 38)).alloc (.cells #[.slice none 0 0, .slice none 0 0] 39)) (.cells #[.slice none 0 0, .slice none 0 0] 39)
      simpa [Nat.add_assoc] using this
    · exact (((((Below.refl _ w).alloc (Nat.le_refl _) _).alloc (by simp) _).alloc (by simp; omega) _).alloc (by simp; omega) _).alloc (by simp; omega) _
  have hwl : (((((w.alloc (.cells #[.slice a0 n0 c0, .slice a1 n1 c1] 36)).alloc (.cells #[.pointer none, .pointer none] 38)).alloc (.cells #[.pointer none, .pointer none] 38)).alloc (.cells #[.slice none 0 0, .slice none 0 0] 39)).alloc (.cells #[.slice none 0 0, .slice none 0 0] 39)).heap.size = w.heap.size + 5 := by simp
  simp only [Nat.add_assoc, Nat.reduceAdd]
  generalize (((((w.alloc (.cells #[.slice a0 n0 c0, .slice a1 n1 c1] 36)).alloc (.cells #[.pointer none, .pointer none] 38)).alloc (.cells #[.pointer none, .pointer none] 38)).alloc (.cells #[.slice none 0 0, .slice none 0 0] 39)).alloc (.cells #[.slice none 0 0, .slice none 0 0] 39)) = V0 at ha hwl ⊢
  generalize hb9 : w.heap.size = b at ha hwl ⊢
  have HB9 := Lib.hid hb9
  clear hb9
  have HA0 := Lib.hid ha
  have hsz0 : b + 5 ≤ V0.heap.size := by omega
  clear ha hwl
  refine wp_loop_rounds 3 ?_
  rw [rounds_succ]
  have k90 : V0.cell? ⟨b, 0, none⟩ = some (.slice a0 n0 c0) := cell_of_row V0 b 0 _ _ _ HA0.out.r9
  by_cases hb0 : 67108864 < n0
  · go_wp2_with fail
    go_ret
    exact ⟨rfl, by have := HA0.out.bl; exact this⟩
  go_upto_region 11 with fail
  clear k90
  have hsl0 : SlB V0.drew a0 n0 c0 l0 := (H0.out.keep HA0.out.bl).drewN 1
  have ha0 : AR w V0.drew b (#[.slice a0 n0 c0, .slice a1 n1 c1]) (#[.pointer none, .pointer none]) (#[.pointer none, .pointer none]) (#[.slice none 0 0, .slice none 0 0]) (#[.slice none 0 0, .slice none 0 0]) := HA0.out.below (Below.drew (Below.refl _ _))
  obtain ⟨bs0, hbs0⟩ : ∃ bs, bs = whB (packB l0) n0 := ⟨_, rfl⟩
  have hlen0 := H0.out.len
  have hpl0 : (packB l0).length = (n0 + 7) / 8 := by rw [pack_len, hlen0]
  have hpp0 : padB (packB l0) n0 = true := by rw [← hlen0]; exact pack_pad l0
  have hbl0 : bs0.length ≤ 100000000 := by rw [hbs0, wh_len']; have := cnt_le (packB l0) n0; unfold enO mkO smO grO; omega
  refine wh_start (S := fun W => W.heap[b]? = some (.cells #[.slice a0 n0 c0, .slice a1 n1 c1] 36 (0, 0))) 12 rfl (by kernel_rfl) ?_
  refine wh_take 0 (.int .i64 0) rfl rfl (by kernel_rfl) (by kernel_rfl) (by kernel_rfl) (fun _ _ _ h => h) ha0.r9 (fun w' h => by simp [go_sem]) ?_
  refine wh_take 1 (.int .i64 0) rfl rfl (by kernel_rfl) (by kernel_rfl) (by kernel_rfl) (fun _ _ _ h => h) ha0.r9 (fun w' h => by simp [go_sem]) ?_
  refine wh_take 2 (.pointer (some ⟨b, 0, none⟩)) rfl rfl (by kernel_rfl) (by kernel_rfl) (by kernel_rfl) (fun _ _ _ h => h) ha0.r9 (fun w' h => by simp [go_sem]) ?_
  refine wh_take 3 (.slice a0 n0 c0) rfl rfl (by kernel_rfl) (by kernel_rfl) (by kernel_rfl) (fun _ _ _ h => h) ha0.r9 (fun w' h => by have k := cell_of_row w' b 0 _ _ _ h; simp at k; simp [go_sem, k]) ?_
  refine wh_take 5 (.int .i64 0) rfl rfl (by kernel_rfl) (by kernel_rfl) (by kernel_rfl) (fun _ _ _ h => h) ha0.r9 (fun w' h => by simp [go_sem]) ?_
  refine wh_take 6 (.pointer (some ⟨b, 0, none⟩)) rfl rfl (by kernel_rfl) (by kernel_rfl) (by kernel_rfl) (fun _ _ _ h => h) ha0.r9 (fun w' h => by simp [go_sem]) ?_
  refine wh_take 7 (.slice a0 n0 c0) rfl rfl (by kernel_rfl) (by kernel_rfl) (by kernel_rfl) (fun _ _ _ h => h) ha0.r9 (fun w' h => by have k := cell_of_row w' b 0 _ _ _ h; simp at k; simp [go_sem, k]) ?_
  refine wh_take 8 (.int .i64 (n0 : Nat)) rfl rfl (by kernel_rfl) (by kernel_rfl) (by kernel_rfl) (fun _ _ _ h => h) ha0.r9 (fun w' h => by simp [go_sem]) ?_
  refine wh_callx 4 (fun v W' => (∃ g, v = .slice (some ⟨g, 0, none⟩) ((n0 + 7) / 8) ((n0 + 7) / 8) ∧ RowI .u8 5 W' g (nums (packB l0))) ∧ Below V0.drew.heap.size V0.drew W') rfl rfl (by kernel_rfl) (by simp [go_sem]) ((packed_calls _ _ _ _ _ hsl0 (by omega)).mono fun e W' ⟨g, h1, _, h3, h4⟩ => ⟨_, h1, ⟨g, rfl, h3⟩, h4⟩) (fun v W' h => (ha0.below h.2).r9) ?_
  rintro _ Wp0 ⟨⟨g0, rfl, hrp0⟩, hbp0⟩
  have hlp0 : (nums (packB l0)).length = (n0 + 7) / 8 := by rw [nums_len, hpl0]
  have hap0 := ha0.below hbp0
  have hszp0 : b + 5 ≤ Wp0.heap.size := Nat.le_trans hsz0 (Nat.le_trans (by simp) hbp0.size)
  refine wh_callx 9 (fun v W' => (∃ aw cw, v = .slice aw bs0.length cw ∧ SlI .u8 W' aw bs0.length cw (nums bs0) ∧ ∀ x, aw = some x → b + 5 ≤ x.block) ∧ Below Wp0.heap.size Wp0 W') rfl rfl (by kernel_rfl) (by simp [go_sem]) ((whole_calls Wp0 _ _ _ (packB l0) n0 (row_sl hrp0 hlp0 (by omega)) (fun e => by cases e) (by omega) (by omega) (by omega)).mono fun e W' ⟨x, h1, h2, h3⟩ => by
    obtain ⟨aw, cw, e1, e2, e3⟩ := h2.sl
    rw [nums_len, ← hbs0] at e1 e2
    exact ⟨x, h1, ⟨aw, cw, e1, e2, fun x hx => Nat.le_trans hszp0 (e3 x hx).1⟩, h3⟩) (fun v W' h => (hap0.below h.2).r9) ?_
  rintro _ Ww0 ⟨⟨aw0, cw0, rfl, hsw0, how0⟩, hbw0⟩
  have haw0 := hap0.below hbw0
  refine wh_take 10 (.pointer (some ⟨b + 4, 0, none⟩)) rfl rfl (by kernel_rfl) (by kernel_rfl) (by kernel_rfl) (fun _ _ _ h => h) haw0.r9 (fun w' h => by simp [go_sem]) ?_
  refine wh_skip 11 (w' := Ww0.setCell ⟨b + 4, 0, none⟩ (.slice aw0 bs0.length cw0)) rfl rfl (by kernel_rfl) ?_ (haw0.s13 0 _).r9 ?_
  · have k := cell_of_row Ww0 (b + 4) 0 _ _ _ haw0.r13
    have f := frozen_of_row Ww0 (b + 4) 0 _ _ haw0.r13
    simp at k
    simp [go_sem, k, f]
  refine wpAnyH_done (by kernel_rfl) ?_ 0
  have hd0 : AR w (Ww0.setCell ⟨b + 4, 0, none⟩ (.slice aw0 bs0.length cw0)) b (#[.slice a0 n0 c0, .slice a1 n1 c1]) (#[.pointer none, .pointer none]) (#[.pointer none, .pointer none]) (#[.slice none 0 0, .slice none 0 0]) (#[.slice aw0 bs0.length cw0, .slice none 0 0]) := haw0.s13 0 _
  have hsd0 := kept_sl hsw0 (kept_set (Kept.refl (fun j => j = b + 4) Ww0) 0 (.slice aw0 bs0.length cw0)) (fun x hx e => by have := how0 x hx; omega)
  have hszd0 : b + 5 ≤ (Ww0.setCell ⟨b + 4, 0, none⟩ (.slice aw0 bs0.length cw0)).heap.size := by simp; exact Nat.le_trans hszp0 hbw0.size
  generalize Ww0.setCell ⟨b + 4, 0, none⟩ (.slice aw0 bs0.length cw0) = Wd0 at hd0 hsd0 hszd0 ⊢
  have HD0 := Lib.hid hd0
  have HSD0 := Lib.hid hsd0
  have HOW0 := Lib.hid how0
  have HBS0 := Lib.hid hbs0
  have HPL0 := Lib.hid hpl0
  have HPP0 := Lib.hid hpp0
  have HLN0 := Lib.hid hlen0
  
  have hlt0 := lent_calls Wd0 aw0 bs0.length cw0 (nums bs0) hsd0 (by omega)
  have HLT0 := Lib.hid hlt0
  have k130 : Wd0.cell? ⟨b + 4, 0, none⟩ = some (.slice aw0 bs0.length cw0) := cell_of_row Wd0 (b + 4) 0 _ _ _ hd0.r13
  clear hd0 hsd0 how0 hbs0 hpl0 hpp0 hlen0 hlt0 hsw0 hbw0 haw0 hap0 hbp0 hrp0 hlp0 hsl0 ha0 
  go_upto_region 13 with (go_at_call 13; (with_reducible refine HLT0.out.mono ?_); rintro e Wl0 ⟨rfl, hf⟩; (have HF0 := Lib.hid hf); (have HL0 := Lib.hid (HD0.out.below hf.below)); (have k120 := cell_of_row Wl0 (b + 3) 0 _ _ _ HL0.out.r12); (have f120 := fz_row (i := 0) HL0.out.r12); (have HSL0 := Lib.hid (HSD0.out.keep hf.below)); clear hf)
  have hvl0 : AR w (Wl0.setCell ⟨b + 3, 0, none⟩ (.slice (some ⟨Wd0.heap.size, 0, none⟩) bs0.length (bs0.length + 2))) b (#[.slice a0 n0 c0, .slice a1 n1 c1]) (#[.pointer none, .pointer none]) (#[.pointer none, .pointer none]) (#[.slice (some ⟨Wd0.heap.size, 0, none⟩) bs0.length (bs0.length + 2), .slice none 0 0]) (#[.slice aw0 bs0.length cw0, .slice none 0 0]) := HL0.out.s12 0 _
  have hro0 := row_keptS HF0.out.row (kept_set (Kept.refl (fun j => j = b + 3) Wl0) 0 (.slice (some ⟨Wd0.heap.size, 0, none⟩) bs0.length (bs0.length + 2))) (by omega)
  have hso0 := kept_sl HSL0.out (kept_set (Kept.refl (fun j => j = b + 3) Wl0) 0 (.slice (some ⟨Wd0.heap.size, 0, none⟩) bs0.length (bs0.length + 2))) (fun x hx e => by have := HOW0.out x hx; omega)
  clear HF0 HL0 k120 f120 k130 HLT0 HD0 HSD0 HSL0 
  generalize Wl0.setCell ⟨b + 3, 0, none⟩ (.slice (some ⟨Wd0.heap.size, 0, none⟩) bs0.length (bs0.length + 2)) = Wo0 at hvl0 hro0 hso0  ⊢
  generalize Wd0.heap.size = go0 at hvl0 hro0 hszd0 ⊢
  have HVL0 := Lib.hid hvl0
  have HRO0 := Lib.hid hro0
  have HSO0 := Lib.hid hso0
  
  have HOP0 := Lib.hid (show ∀ W', SlI .u8 W' (some ⟨go0, 0, none⟩) bs0.length (bs0.length + 2) (nums bs0) → Calls Try.prog 21 #[.slice (some ⟨go0, 0, none⟩) bs0.length (bs0.length + 2)] W' fun e w' => ∃ gv, e = .returned (.tuple #[.pointer (some ⟨gv, 0, none⟩), .nilIface]) ∧ W'.heap.size ≤ gv ∧ VecAt w' gv (some ⟨go0, 0, none⟩) (bs0.length + 2) bs0 n0 (cntB (packB l0) n0) ∧ Below W'.heap.size W' w' by rw [HBS0.out]; exact fun W' h => open_wh W' _ _ (packB l0) n0 HPL0.out HPP0.out (by omega) h)
  have HVW0 := Lib.hid (show ∀ W', SlI .u8 W' (some ⟨go0, 0, none⟩) bs0.length (bs0.length + 2) (nums bs0) → Calls Try.prog 22 #[.slice (some ⟨go0, 0, none⟩) bs0.length (bs0.length + 2)] W' fun e w' => ∃ gv, e = .returned (.tuple #[.pointer (some ⟨gv, 0, none⟩), .nilIface]) ∧ W'.heap.size ≤ gv ∧ VecAt w' gv (some ⟨go0, 0, none⟩) (bs0.length + 2) bs0 n0 (cntB (packB l0) n0) ∧ Below W'.heap.size W' w' by rw [HBS0.out]; exact fun W' h => view_wh W' _ _ (packB l0) n0 HPL0.out (by omega) h)
  have hown0 := own_sl hro0 (nums_len bs0) (by omega)
  have k120 : Wo0.cell? ⟨b + 3, 0, none⟩ = some (.slice (some ⟨go0, 0, none⟩) bs0.length (bs0.length + 2)) := cell_of_row Wo0 (b + 3) 0 _ _ _ hvl0.r12
  have HOWN0 := Lib.hid hown0
  have hszo0 := HRO0.out.lt
  clear hvl0 hro0 hso0 hown0 
  go_upto_region 14 with (go_at_call 21; (with_reducible refine (HOP0.out _ HOWN0.out).mono ?_); rintro e Wq0 ⟨gv0, rfl, hgv0, hvq, hb⟩; (have HQ0 := Lib.hid hvq); (have HBQ0 := Lib.hid hb); clear hvq hb)
  have haq0 := HVL0.out.below HBQ0.out
  have hownq0 := HOWN0.out.keep HBQ0.out
  clear k120
  have k120 : Wq0.cell? ⟨b + 3, 0, none⟩ = some (.slice (some ⟨go0, 0, none⟩) bs0.length (bs0.length + 2)) := cell_of_row Wq0 (b + 3) 0 _ _ _ haq0.r12
  have HAQ0 := Lib.hid haq0
  have HOWNQ0 := Lib.hid hownq0
  have hszq0 := HBQ0.out.size
  clear haq0 hownq0
  go_upto_region 17 with (go_at_call 22; (with_reducible refine (HVW0.out _ HOWNQ0.out).mono ?_); rintro e Ws0 ⟨gs0, rfl, hgs0, hvs, hb⟩; (have HSS0 := Lib.hid hvs); (have HBS20 := Lib.hid hb); clear hvs hb)
  have has0 := HAQ0.out.below HBS20.out
  have hvr0 : VR b Ws0 n0 l0 bs0 go0 gv0 gs0 aw0 cw0 := ⟨HBS0.out, HQ0.out.below HBS20.out, HSS0.out, (HRO0.out.below HBQ0.out HRO0.out.lt).below HBS20.out (HRO0.out.below HBQ0.out HRO0.out.lt).lt, (HSO0.out.keep HBQ0.out).keep HBS20.out, hszd0, by omega, by omega, HOW0.out, HLN0.out⟩
  clear k120 HAQ0 HOWNQ0 HOWN0 HOP0 HVW0 HQ0 HSS0 HRO0 HSO0 HBQ0 HBS20 HVL0 
  have k100 := cell_of_row Ws0 (b + 1) 0 _ _ _ has0.r10
  have f100 := fz_row (i := 0) has0.r10
  have HAS0 := Lib.hid has0
  have HVR0 := Lib.hid hvr0
  
  clear has0 hvr0 
  go_upto_region 18 with fail
  have hat0 : AR w (Ws0.setCell ⟨b + 1, 0, none⟩ (.pointer (some ⟨gv0, 0, none⟩))) b (#[.slice a0 n0 c0, .slice a1 n1 c1]) (#[.pointer (some ⟨gv0, 0, none⟩), .pointer none]) (#[.pointer none, .pointer none]) (#[.slice (some ⟨go0, 0, none⟩) bs0.length (bs0.length + 2), .slice none 0 0]) (#[.slice aw0 bs0.length cw0, .slice none 0 0]) := HAS0.out.s10 0 _
  have hvt0 := HVR0.out.set 1 0 (by decide) (.pointer (some ⟨gv0, 0, none⟩))
  clear k100 f100 HAS0 HVR0 
  generalize Ws0.setCell ⟨b + 1, 0, none⟩ (.pointer (some ⟨gv0, 0, none⟩)) = Wt0 at hat0 hvt0  ⊢
  have k110 := cell_of_row Wt0 (b + 2) 0 _ _ _ hat0.r11
  have f110 := fz_row (i := 0) hat0.r11
  have HAT0 := Lib.hid hat0
  have HVT0 := Lib.hid hvt0
  
  clear hat0 hvt0 
  go_wp2_with fail
  have hae0 : AR w (Wt0.setCell ⟨b + 2, 0, none⟩ (.pointer (some ⟨gs0, 0, none⟩))) b (#[.slice a0 n0 c0, .slice a1 n1 c1]) (#[.pointer (some ⟨gv0, 0, none⟩), .pointer none]) (#[.pointer (some ⟨gs0, 0, none⟩), .pointer none]) (#[.slice (some ⟨go0, 0, none⟩) bs0.length (bs0.length + 2), .slice none 0 0]) (#[.slice aw0 bs0.length cw0, .slice none 0 0]) := HAT0.out.s11 0 _
  have hve0 := HVT0.out.set 2 0 (by decide) (.pointer (some ⟨gs0, 0, none⟩))
  clear k110 f110 HAT0 HVT0 
  generalize Wt0.setCell ⟨b + 2, 0, none⟩ (.pointer (some ⟨gs0, 0, none⟩)) = V1 at hae0 hve0  ⊢
  have HA1 := Lib.hid hae0
  have HV0 := Lib.hid hve0
  
  have hsz1 : b + 5 ≤ V1.heap.size := by have := HV0.out.ro.lt; have := HV0.out.o1; omega
  clear hae0 hve0 
  rw [rounds_succ]
  have k91 : V1.cell? ⟨b, 1, none⟩ = some (.slice a1 n1 c1) := cell_of_row V1 b 1 _ _ _ HA1.out.r9
  by_cases hb1 : 67108864 < n1
  · go_wp2_with fail
    go_ret
    exact ⟨rfl, by have := HA1.out.bl; exact this⟩
  go_upto_region 11 with fail
  clear k91
  have hsl1 : SlB V1.drew a1 n1 c1 l1 := (H1.out.keep HA1.out.bl).drewN 1
  have ha1 : AR w V1.drew b (#[.slice a0 n0 c0, .slice a1 n1 c1]) (#[.pointer (some ⟨gv0, 0, none⟩), .pointer none]) (#[.pointer (some ⟨gs0, 0, none⟩), .pointer none]) (#[.slice (some ⟨go0, 0, none⟩) bs0.length (bs0.length + 2), .slice none 0 0]) (#[.slice aw0 bs0.length cw0, .slice none 0 0]) := HA1.out.below (Below.drew (Below.refl _ _))
  obtain ⟨bs1, hbs1⟩ : ∃ bs, bs = whB (packB l1) n1 := ⟨_, rfl⟩
  have hlen1 := H1.out.len
  have hpl1 : (packB l1).length = (n1 + 7) / 8 := by rw [pack_len, hlen1]
  have hpp1 : padB (packB l1) n1 = true := by rw [← hlen1]; exact pack_pad l1
  have hbl1 : bs1.length ≤ 100000000 := by rw [hbs1, wh_len']; have := cnt_le (packB l1) n1; unfold enO mkO smO grO; omega
  refine wh_start (S := fun W => W.heap[b]? = some (.cells #[.slice a0 n0 c0, .slice a1 n1 c1] 36 (0, 0))) 12 rfl (by kernel_rfl) ?_
  refine wh_take 0 (.int .i64 1) rfl rfl (by kernel_rfl) (by kernel_rfl) (by kernel_rfl) (fun _ _ _ h => h) ha1.r9 (fun w' h => by simp [go_sem]) ?_
  refine wh_take 1 (.int .i64 1) rfl rfl (by kernel_rfl) (by kernel_rfl) (by kernel_rfl) (fun _ _ _ h => h) ha1.r9 (fun w' h => by simp [go_sem]) ?_
  refine wh_take 2 (.pointer (some ⟨b, 1, none⟩)) rfl rfl (by kernel_rfl) (by kernel_rfl) (by kernel_rfl) (fun _ _ _ h => h) ha1.r9 (fun w' h => by simp [go_sem]) ?_
  refine wh_take 3 (.slice a1 n1 c1) rfl rfl (by kernel_rfl) (by kernel_rfl) (by kernel_rfl) (fun _ _ _ h => h) ha1.r9 (fun w' h => by have k := cell_of_row w' b 1 _ _ _ h; simp at k; simp [go_sem, k]) ?_
  refine wh_take 5 (.int .i64 1) rfl rfl (by kernel_rfl) (by kernel_rfl) (by kernel_rfl) (fun _ _ _ h => h) ha1.r9 (fun w' h => by simp [go_sem]) ?_
  refine wh_take 6 (.pointer (some ⟨b, 1, none⟩)) rfl rfl (by kernel_rfl) (by kernel_rfl) (by kernel_rfl) (fun _ _ _ h => h) ha1.r9 (fun w' h => by simp [go_sem]) ?_
  refine wh_take 7 (.slice a1 n1 c1) rfl rfl (by kernel_rfl) (by kernel_rfl) (by kernel_rfl) (fun _ _ _ h => h) ha1.r9 (fun w' h => by have k := cell_of_row w' b 1 _ _ _ h; simp at k; simp [go_sem, k]) ?_
  refine wh_take 8 (.int .i64 (n1 : Nat)) rfl rfl (by kernel_rfl) (by kernel_rfl) (by kernel_rfl) (fun _ _ _ h => h) ha1.r9 (fun w' h => by simp [go_sem]) ?_
  refine wh_callx 4 (fun v W' => (∃ g, v = .slice (some ⟨g, 0, none⟩) ((n1 + 7) / 8) ((n1 + 7) / 8) ∧ RowI .u8 5 W' g (nums (packB l1))) ∧ Below V1.drew.heap.size V1.drew W') rfl rfl (by kernel_rfl) (by simp [go_sem]) ((packed_calls _ _ _ _ _ hsl1 (by omega)).mono fun e W' ⟨g, h1, _, h3, h4⟩ => ⟨_, h1, ⟨g, rfl, h3⟩, h4⟩) (fun v W' h => (ha1.below h.2).r9) ?_
  rintro _ Wp1 ⟨⟨g1, rfl, hrp1⟩, hbp1⟩
  have hlp1 : (nums (packB l1)).length = (n1 + 7) / 8 := by rw [nums_len, hpl1]
  have hap1 := ha1.below hbp1
  have hszp1 : b + 5 ≤ Wp1.heap.size := Nat.le_trans hsz1 (Nat.le_trans (by simp) hbp1.size)
  refine wh_callx 9 (fun v W' => (∃ aw cw, v = .slice aw bs1.length cw ∧ SlI .u8 W' aw bs1.length cw (nums bs1) ∧ ∀ x, aw = some x → b + 5 ≤ x.block) ∧ Below Wp1.heap.size Wp1 W') rfl rfl (by kernel_rfl) (by simp [go_sem]) ((whole_calls Wp1 _ _ _ (packB l1) n1 (row_sl hrp1 hlp1 (by omega)) (fun e => by cases e) (by omega) (by omega) (by omega)).mono fun e W' ⟨x, h1, h2, h3⟩ => by
    obtain ⟨aw, cw, e1, e2, e3⟩ := h2.sl
    rw [nums_len, ← hbs1] at e1 e2
    exact ⟨x, h1, ⟨aw, cw, e1, e2, fun x hx => Nat.le_trans hszp1 (e3 x hx).1⟩, h3⟩) (fun v W' h => (hap1.below h.2).r9) ?_
  rintro _ Ww1 ⟨⟨aw1, cw1, rfl, hsw1, how1⟩, hbw1⟩
  have haw1 := hap1.below hbw1
  refine wh_take 10 (.pointer (some ⟨b + 4, 1, none⟩)) rfl rfl (by kernel_rfl) (by kernel_rfl) (by kernel_rfl) (fun _ _ _ h => h) haw1.r9 (fun w' h => by simp [go_sem]) ?_
  refine wh_skip 11 (w' := Ww1.setCell ⟨b + 4, 1, none⟩ (.slice aw1 bs1.length cw1)) rfl rfl (by kernel_rfl) ?_ (haw1.s13 1 _).r9 ?_
  · have k := cell_of_row Ww1 (b + 4) 1 _ _ _ haw1.r13
    have f := frozen_of_row Ww1 (b + 4) 1 _ _ haw1.r13
    simp at k
    simp [go_sem, k, f]
  refine wpAnyH_done (by kernel_rfl) ?_ 0
  have hd1 : AR w (Ww1.setCell ⟨b + 4, 1, none⟩ (.slice aw1 bs1.length cw1)) b (#[.slice a0 n0 c0, .slice a1 n1 c1]) (#[.pointer (some ⟨gv0, 0, none⟩), .pointer none]) (#[.pointer (some ⟨gs0, 0, none⟩), .pointer none]) (#[.slice (some ⟨go0, 0, none⟩) bs0.length (bs0.length + 2), .slice none 0 0]) (#[.slice aw0 bs0.length cw0, .slice aw1 bs1.length cw1]) := haw1.s13 1 _
  have hsd1 := kept_sl hsw1 (kept_set (Kept.refl (fun j => j = b + 4) Ww1) 1 (.slice aw1 bs1.length cw1)) (fun x hx e => by have := how1 x hx; omega)
  have hszd1 : b + 5 ≤ (Ww1.setCell ⟨b + 4, 1, none⟩ (.slice aw1 bs1.length cw1)).heap.size := by simp; exact Nat.le_trans hszp1 hbw1.size
  have hvd : VR b (Ww1.setCell ⟨b + 4, 1, none⟩ (.slice aw1 bs1.length cw1)) n0 l0 bs0 go0 gv0 gs0 aw0 cw0 := ((((HV0.out.below (Below.drew (Below.refl _ _))).below hbp1).below hbw1).set 4 1 (by decide) _)
  generalize Ww1.setCell ⟨b + 4, 1, none⟩ (.slice aw1 bs1.length cw1) = Wd1 at hd1 hsd1 hszd1 hvd ⊢
  have HD1 := Lib.hid hd1
  have HSD1 := Lib.hid hsd1
  have HOW1 := Lib.hid how1
  have HBS1 := Lib.hid hbs1
  have HPL1 := Lib.hid hpl1
  have HPP1 := Lib.hid hpp1
  have HLN1 := Lib.hid hlen1
  have HVD := Lib.hid hvd
  have hlt1 := lent_calls Wd1 aw1 bs1.length cw1 (nums bs1) hsd1 (by omega)
  have HLT1 := Lib.hid hlt1
  have k131 : Wd1.cell? ⟨b + 4, 1, none⟩ = some (.slice aw1 bs1.length cw1) := cell_of_row Wd1 (b + 4) 1 _ _ _ hd1.r13
  clear hd1 hsd1 how1 hbs1 hpl1 hpp1 hlen1 hlt1 hsw1 hbw1 haw1 hap1 hbp1 hrp1 hlp1 hsl1 ha1 hvd
  go_upto_region 13 with (go_at_call 13; (with_reducible refine HLT1.out.mono ?_); rintro e Wl1 ⟨rfl, hf⟩; (have HF1 := Lib.hid hf); (have HL1 := Lib.hid (HD1.out.below hf.below)); (have k121 := cell_of_row Wl1 (b + 3) 1 _ _ _ HL1.out.r12); (have f121 := fz_row (i := 1) HL1.out.r12); (have HSL1 := Lib.hid (HSD1.out.keep hf.below)); clear hf)
  have hvl1 : AR w (Wl1.setCell ⟨b + 3, 1, none⟩ (.slice (some ⟨Wd1.heap.size, 0, none⟩) bs1.length (bs1.length + 2))) b (#[.slice a0 n0 c0, .slice a1 n1 c1]) (#[.pointer (some ⟨gv0, 0, none⟩), .pointer none]) (#[.pointer (some ⟨gs0, 0, none⟩), .pointer none]) (#[.slice (some ⟨go0, 0, none⟩) bs0.length (bs0.length + 2), .slice (some ⟨Wd1.heap.size, 0, none⟩) bs1.length (bs1.length + 2)]) (#[.slice aw0 bs0.length cw0, .slice aw1 bs1.length cw1]) := HL1.out.s12 1 _
  have hro1 := row_keptS HF1.out.row (kept_set (Kept.refl (fun j => j = b + 3) Wl1) 1 (.slice (some ⟨Wd1.heap.size, 0, none⟩) bs1.length (bs1.length + 2))) (by omega)
  have hso1 := kept_sl HSL1.out (kept_set (Kept.refl (fun j => j = b + 3) Wl1) 1 (.slice (some ⟨Wd1.heap.size, 0, none⟩) bs1.length (bs1.length + 2))) (fun x hx e => by have := HOW1.out x hx; omega)
  have hvo := (HVD.out.below HF1.out.below).set 3 1 (by decide) (.slice (some ⟨Wd1.heap.size, 0, none⟩) bs1.length (bs1.length + 2))
  clear HF1 HL1 k121 f121 k131 HLT1 HD1 HSD1 HSL1 HVD
  generalize Wl1.setCell ⟨b + 3, 1, none⟩ (.slice (some ⟨Wd1.heap.size, 0, none⟩) bs1.length (bs1.length + 2)) = Wo1 at hvl1 hro1 hso1 hvo ⊢
  generalize Wd1.heap.size = go1 at hvl1 hro1 hszd1 ⊢
  have HVL1 := Lib.hid hvl1
  have HRO1 := Lib.hid hro1
  have HSO1 := Lib.hid hso1
  have HVO := Lib.hid hvo
  have HOP1 := Lib.hid (show ∀ W', SlI .u8 W' (some ⟨go1, 0, none⟩) bs1.length (bs1.length + 2) (nums bs1) → Calls Try.prog 21 #[.slice (some ⟨go1, 0, none⟩) bs1.length (bs1.length + 2)] W' fun e w' => ∃ gv, e = .returned (.tuple #[.pointer (some ⟨gv, 0, none⟩), .nilIface]) ∧ W'.heap.size ≤ gv ∧ VecAt w' gv (some ⟨go1, 0, none⟩) (bs1.length + 2) bs1 n1 (cntB (packB l1) n1) ∧ Below W'.heap.size W' w' by rw [HBS1.out]; exact fun W' h => open_wh W' _ _ (packB l1) n1 HPL1.out HPP1.out (by omega) h)
  have HVW1 := Lib.hid (show ∀ W', SlI .u8 W' (some ⟨go1, 0, none⟩) bs1.length (bs1.length + 2) (nums bs1) → Calls Try.prog 22 #[.slice (some ⟨go1, 0, none⟩) bs1.length (bs1.length + 2)] W' fun e w' => ∃ gv, e = .returned (.tuple #[.pointer (some ⟨gv, 0, none⟩), .nilIface]) ∧ W'.heap.size ≤ gv ∧ VecAt w' gv (some ⟨go1, 0, none⟩) (bs1.length + 2) bs1 n1 (cntB (packB l1) n1) ∧ Below W'.heap.size W' w' by rw [HBS1.out]; exact fun W' h => view_wh W' _ _ (packB l1) n1 HPL1.out (by omega) h)
  have hown1 := own_sl hro1 (nums_len bs1) (by omega)
  have k121 : Wo1.cell? ⟨b + 3, 1, none⟩ = some (.slice (some ⟨go1, 0, none⟩) bs1.length (bs1.length + 2)) := cell_of_row Wo1 (b + 3) 1 _ _ _ hvl1.r12
  have HOWN1 := Lib.hid hown1
  have hszo1 := HRO1.out.lt
  clear hvl1 hro1 hso1 hown1 hvo
  go_upto_region 14 with (go_at_call 21; (with_reducible refine (HOP1.out _ HOWN1.out).mono ?_); rintro e Wq1 ⟨gv1, rfl, hgv1, hvq, hb⟩; (have HQ1 := Lib.hid hvq); (have HBQ1 := Lib.hid hb); clear hvq hb)
  have haq1 := HVL1.out.below HBQ1.out
  have hownq1 := HOWN1.out.keep HBQ1.out
  clear k121
  have k121 : Wq1.cell? ⟨b + 3, 1, none⟩ = some (.slice (some ⟨go1, 0, none⟩) bs1.length (bs1.length + 2)) := cell_of_row Wq1 (b + 3) 1 _ _ _ haq1.r12
  have HAQ1 := Lib.hid haq1
  have HOWNQ1 := Lib.hid hownq1
  have hszq1 := HBQ1.out.size
  clear haq1 hownq1
  go_upto_region 17 with (go_at_call 22; (with_reducible refine (HVW1.out _ HOWNQ1.out).mono ?_); rintro e Ws1 ⟨gs1, rfl, hgs1, hvs, hb⟩; (have HSS1 := Lib.hid hvs); (have HBS21 := Lib.hid hb); clear hvs hb)
  have has1 := HAQ1.out.below HBS21.out
  have hvr1 : VR b Ws1 n1 l1 bs1 go1 gv1 gs1 aw1 cw1 := ⟨HBS1.out, HQ1.out.below HBS21.out, HSS1.out, (HRO1.out.below HBQ1.out HRO1.out.lt).below HBS21.out (HRO1.out.below HBQ1.out HRO1.out.lt).lt, (HSO1.out.keep HBQ1.out).keep HBS21.out, hszd1, by omega, by omega, HOW1.out, HLN1.out⟩
  have hvr0 := (HVO.out.below HBQ1.out).below HBS21.out
  clear k121 HAQ1 HOWNQ1 HOWN1 HOP1 HVW1 HQ1 HSS1 HRO1 HSO1 HBQ1 HBS21 HVL1 HVO
  have k101 := cell_of_row Ws1 (b + 1) 1 _ _ _ has1.r10
  have f101 := fz_row (i := 1) has1.r10
  have HAS1 := Lib.hid has1
  have HVR1 := Lib.hid hvr1
  have HVRA := Lib.hid hvr0
  clear has1 hvr1 hvr0
  go_upto_region 18 with fail
  have hat1 : AR w (Ws1.setCell ⟨b + 1, 1, none⟩ (.pointer (some ⟨gv1, 0, none⟩))) b (#[.slice a0 n0 c0, .slice a1 n1 c1]) (#[.pointer (some ⟨gv0, 0, none⟩), .pointer (some ⟨gv1, 0, none⟩)]) (#[.pointer (some ⟨gs0, 0, none⟩), .pointer none]) (#[.slice (some ⟨go0, 0, none⟩) bs0.length (bs0.length + 2), .slice (some ⟨go1, 0, none⟩) bs1.length (bs1.length + 2)]) (#[.slice aw0 bs0.length cw0, .slice aw1 bs1.length cw1]) := HAS1.out.s10 1 _
  have hvt1 := HVR1.out.set 1 1 (by decide) (.pointer (some ⟨gv1, 0, none⟩))
  have hvt0 := HVRA.out.set 1 1 (by decide) (.pointer (some ⟨gv1, 0, none⟩))
  clear k101 f101 HAS1 HVR1 HVRA
  generalize Ws1.setCell ⟨b + 1, 1, none⟩ (.pointer (some ⟨gv1, 0, none⟩)) = Wt1 at hat1 hvt1 hvt0 ⊢
  have k111 := cell_of_row Wt1 (b + 2) 1 _ _ _ hat1.r11
  have f111 := fz_row (i := 1) hat1.r11
  have HAT1 := Lib.hid hat1
  have HVT1 := Lib.hid hvt1
  have HVTA := Lib.hid hvt0
  clear hat1 hvt1 hvt0
  go_wp2_with fail
  have hae1 : AR w (Wt1.setCell ⟨b + 2, 1, none⟩ (.pointer (some ⟨gs1, 0, none⟩))) b (#[.slice a0 n0 c0, .slice a1 n1 c1]) (#[.pointer (some ⟨gv0, 0, none⟩), .pointer (some ⟨gv1, 0, none⟩)]) (#[.pointer (some ⟨gs0, 0, none⟩), .pointer (some ⟨gs1, 0, none⟩)]) (#[.slice (some ⟨go0, 0, none⟩) bs0.length (bs0.length + 2), .slice (some ⟨go1, 0, none⟩) bs1.length (bs1.length + 2)]) (#[.slice aw0 bs0.length cw0, .slice aw1 bs1.length cw1]) := HAT1.out.s11 1 _
  have hve1 := HVT1.out.set 2 1 (by decide) (.pointer (some ⟨gs1, 0, none⟩))
  have hve0 := HVTA.out.set 2 1 (by decide) (.pointer (some ⟨gs1, 0, none⟩))
  clear k111 f111 HAT1 HVT1 HVTA
  generalize Wt1.setCell ⟨b + 2, 1, none⟩ (.pointer (some ⟨gs1, 0, none⟩)) = V2 at hae1 hve1 hve0 ⊢
  have HA2 := Lib.hid hae1
  have HV1 := Lib.hid hve1
  have HVZ := Lib.hid hve0
  have hsz2 : b + 5 ≤ V2.heap.size := by have := HV1.out.ro.lt; have := HV1.out.o1; omega
  clear hae1 hve1 hve0
  rw [rounds_succ]
  go_wp2_with fail
  have HVF0 := HVZ
  have HVF1 := HV1
  have HBL := Lib.hid HA2.out.bl
  clear HVZ HV1 HA0 HA1
  go_loopw [19] (fun iv wr => ∃ i : Nat, iv = .int .i64 (i : Nat) ∧ i ≤ n2 ∧ Below V2.heap.size V2 wr) (fun iv _ => n2 - (intOf iv).toNat)
  case atStart => exact ⟨0, rfl, Nat.zero_le _, Below.refl _ _⟩
  case round =>
    obtain ⟨i, rfl, hi, hbr⟩ := hrel
    have HBR := Lib.hid hbr
    clear hbr
    have hl2b := H2.out.le
    have hm2b := H2.out.max
    by_cases hin : i < n2
    · by_cases hi3 : i < n3
      · obtain ⟨b3, o3, rfl, hc3⟩ := (H3.out.keep (HBL.out.trans (HBR.out.mono HBL.out.size))).cell i hi3
        have hl3 := H3.out.le
        obtain ⟨B, hB⟩ : ∃ B, B = l3.getD i false := ⟨_, rfl⟩
        rw [← hB] at hc3
        clear hB
        cases B with
        | true =>
          have ha : AR w wr b (#[.slice a0 n0 c0, .slice a1 n1 c1]) (#[.pointer (some ⟨gv0, 0, none⟩), .pointer (some ⟨gv1, 0, none⟩)]) (#[.pointer (some ⟨gs0, 0, none⟩), .pointer (some ⟨gs1, 0, none⟩)]) (#[.slice (some ⟨go0, 0, none⟩) bs0.length (bs0.length + 2), .slice (some ⟨go1, 0, none⟩) bs1.length (bs1.length + 2)]) (#[.slice aw0 bs0.length cw0, .slice aw1 bs1.length cw1]) := HA2.out.below HBR.out
          have hv : VR b wr n1 l1 bs1 go1 gv1 gs1 aw1 cw1 := HVF1.out.below HBR.out
          have hk := (H2.out.below (HBL.out.trans (HBR.out.mono HBL.out.size))).at_ i hin
          have hl2 := (H2.out).le
          have hm2 := (H2.out).max
          obtain ⟨bq, oq, rfl, hok⟩ := hk
          obtain ⟨q, hq⟩ : ∃ q, q = asks i := ⟨_, rfl⟩
          rw [← hq] at hok
          clear hq
          obtain ⟨kd, qn, qm⟩ := q
          have hqn : -9223372036854775808 ≤ qn ∧ qn ≤ 9223372036854775807 := hok.nr
          have hqm : -9223372036854775808 ≤ qm ∧ qm ≤ 9223372036854775807 := hok.mr
          have k9 : wr.cell? ⟨b, 1, none⟩ = some (.slice a1 n1 c1) := cell_of_row wr b 1 _ _ _ ha.r9
          have hsl := H1.out.keep ha.bl
          have HPK := Lib.hid (packed_calls wr _ _ _ _ hsl (by omega))
          have HAR := Lib.hid ha
          have HVR := Lib.hid hv
          have HOK := Lib.hid hok
          clear ha hv hok hsl
          go_upto_region 26 with (go_at_call 20; (with_reducible refine HPK.out.mono ?_); rintro e w4 ⟨g4, rfl, hg4, hr4, hb4⟩; (have HR4 := Lib.hid hr4); (have HB4 := Lib.hid hb4); clear hg4 hr4 hb4)
          clear k9 HPK
          have ha4 := HAR.out.below HB4.out
          have hok4 := HOK.out.below HB4.out
          have k9 : w4.cell? ⟨b, 1, none⟩ = some (.slice a1 n1 c1) := cell_of_row w4 b 1 _ _ _ ha4.r9
          have k10 : w4.cell? ⟨b + 1, 1, none⟩ = some (.pointer (some ⟨gv1, 0, none⟩)) := cell_of_row w4 (b + 1) 1 _ _ _ ha4.r10
          have j0 : w4.cell? ⟨bq, oq + i * 3, none⟩ = some (.int .i64 kd) := hok4.c0
          have j1 : w4.cell? ⟨bq, oq + i * 3 + 1, none⟩ = some (.int .i64 qn) := hok4.c1
          have j2 : w4.cell? ⟨bq, oq + i * 3 + 2, none⟩ = some (.int .i64 qm) := hok4.c2
          clear ha4 hok4
          refine wp_region_quiet_tail (fun w' => ∃ n, w' = w4.drewN n) 12 (by kernel_rfl) (by kernel_rfl) ⟨1, rfl⟩ ?_
          simp only [List.take_succ_cons, List.take_zero, List.drop_succ_cons, List.drop_zero]
          repeat (go_big_quiet_step (fail))
          refine wpQuiet_nil ?_
          rintro _ ⟨d1, rfl⟩
          clear k9 k10 j0 j1 j2
          have hsd := row_sl HR4.out (by rw [nums_len, HPL1.out]) (by omega)
          have hve : Vec (w4.drewN d1) gv1 (packB l1) n1 := ⟨_, _, by have h := ((HVR.out.below HB4.out).vo).drewN d1; rw [HBS1.out] at h; exact h, HPL1.out⟩
          have HAS1 := Lib.hid (asked_calls (w4.drewN d1) gv1 (packB l1) n1 hve _ _ _ (hsd.drewN d1) kd qn qm hqn hqm)
          clear hve
          go_upto_region 27 with (go_at_call 23; (with_reducible refine HAS1.out.mono ?_); rintro e w5 ⟨rfl, hb5⟩; (have HB5 := Lib.hid ((below_drewN HB4.out d1).trans (hb5.mono (below_drewN HB4.out d1).size))); (have HSD5 := Lib.hid ((hsd.drewN d1).keep hb5)); clear hb5)
          clear hsd HAS1
          have ha4 := HAR.out.below HB5.out
          have hok4 := HOK.out.below HB5.out
          have k9 : w5.cell? ⟨b, 1, none⟩ = some (.slice a1 n1 c1) := cell_of_row w5 b 1 _ _ _ ha4.r9
          have k10 : w5.cell? ⟨b + 2, 1, none⟩ = some (.pointer (some ⟨gs1, 0, none⟩)) := cell_of_row w5 (b + 2) 1 _ _ _ ha4.r11
          have j0 : w5.cell? ⟨bq, oq + i * 3, none⟩ = some (.int .i64 kd) := hok4.c0
          have j1 : w5.cell? ⟨bq, oq + i * 3 + 1, none⟩ = some (.int .i64 qn) := hok4.c1
          have j2 : w5.cell? ⟨bq, oq + i * 3 + 2, none⟩ = some (.int .i64 qm) := hok4.c2
          clear ha4 hok4
          refine wp_region_quiet_tail (fun w' => ∃ n, w' = w5.drewN n) 12 (by kernel_rfl) (by kernel_rfl) ⟨1, rfl⟩ ?_
          simp only [List.take_succ_cons, List.take_zero, List.drop_succ_cons, List.drop_zero]
          repeat (go_big_quiet_step (fail))
          refine wpQuiet_nil ?_
          rintro _ ⟨d2, rfl⟩
          clear k9 k10 j0 j1 j2
          have hve : Vec (w5.drewN d2) gs1 (packB l1) n1 := ⟨_, _, by have h := ((HVR.out.below HB5.out).vs).drewN d2; rw [HBS1.out] at h; exact h, HPL1.out⟩
          have HAS2 := Lib.hid (asked_calls (w5.drewN d2) gs1 (packB l1) n1 hve _ _ _ (HSD5.out.drewN d2) kd qn qm hqn hqm)
          clear hve
          go_wp2_with (go_at_call 23; (with_reducible refine HAS2.out.mono ?_); rintro e w6 ⟨rfl, hb6⟩; (have HB6 := Lib.hid ((below_drewN HB5.out d2).trans (hb6.mono (below_drewN HB5.out d2).size))); clear hb6)
          go_roundw
          case rel => exact ⟨i + 1, by go_num, by omega, HBR.out.trans (HB6.out.mono HBR.out.size)⟩
          case measure => simp [intOf]; omega
        | false =>
          have ha : AR w wr b (#[.slice a0 n0 c0, .slice a1 n1 c1]) (#[.pointer (some ⟨gv0, 0, none⟩), .pointer (some ⟨gv1, 0, none⟩)]) (#[.pointer (some ⟨gs0, 0, none⟩), .pointer (some ⟨gs1, 0, none⟩)]) (#[.slice (some ⟨go0, 0, none⟩) bs0.length (bs0.length + 2), .slice (some ⟨go1, 0, none⟩) bs1.length (bs1.length + 2)]) (#[.slice aw0 bs0.length cw0, .slice aw1 bs1.length cw1]) := HA2.out.below HBR.out
          have hv : VR b wr n0 l0 bs0 go0 gv0 gs0 aw0 cw0 := HVF0.out.below HBR.out
          have hk := (H2.out.below (HBL.out.trans (HBR.out.mono HBL.out.size))).at_ i hin
          have hl2 := (H2.out).le
          have hm2 := (H2.out).max
          obtain ⟨bq, oq, rfl, hok⟩ := hk
          obtain ⟨q, hq⟩ : ∃ q, q = asks i := ⟨_, rfl⟩
          rw [← hq] at hok
          clear hq
          obtain ⟨kd, qn, qm⟩ := q
          have hqn : -9223372036854775808 ≤ qn ∧ qn ≤ 9223372036854775807 := hok.nr
          have hqm : -9223372036854775808 ≤ qm ∧ qm ≤ 9223372036854775807 := hok.mr
          have k9 : wr.cell? ⟨b, 0, none⟩ = some (.slice a0 n0 c0) := cell_of_row wr b 0 _ _ _ ha.r9
          have hsl := H0.out.keep ha.bl
          have HPK := Lib.hid (packed_calls wr _ _ _ _ hsl (by omega))
          have HAR := Lib.hid ha
          have HVR := Lib.hid hv
          have HOK := Lib.hid hok
          clear ha hv hok hsl
          go_upto_region 26 with (go_at_call 20; (with_reducible refine HPK.out.mono ?_); rintro e w4 ⟨g4, rfl, hg4, hr4, hb4⟩; (have HR4 := Lib.hid hr4); (have HB4 := Lib.hid hb4); clear hg4 hr4 hb4)
          clear k9 HPK
          have ha4 := HAR.out.below HB4.out
          have hok4 := HOK.out.below HB4.out
          have k9 : w4.cell? ⟨b, 0, none⟩ = some (.slice a0 n0 c0) := cell_of_row w4 b 0 _ _ _ ha4.r9
          have k10 : w4.cell? ⟨b + 1, 0, none⟩ = some (.pointer (some ⟨gv0, 0, none⟩)) := cell_of_row w4 (b + 1) 0 _ _ _ ha4.r10
          have j0 : w4.cell? ⟨bq, oq + i * 3, none⟩ = some (.int .i64 kd) := hok4.c0
          have j1 : w4.cell? ⟨bq, oq + i * 3 + 1, none⟩ = some (.int .i64 qn) := hok4.c1
          have j2 : w4.cell? ⟨bq, oq + i * 3 + 2, none⟩ = some (.int .i64 qm) := hok4.c2
          clear ha4 hok4
          refine wp_region_quiet_tail (fun w' => ∃ n, w' = w4.drewN n) 12 (by kernel_rfl) (by kernel_rfl) ⟨1, rfl⟩ ?_
          simp only [List.take_succ_cons, List.take_zero, List.drop_succ_cons, List.drop_zero]
          repeat (go_big_quiet_step (fail))
          refine wpQuiet_nil ?_
          rintro _ ⟨d1, rfl⟩
          clear k9 k10 j0 j1 j2
          have hsd := row_sl HR4.out (by rw [nums_len, HPL0.out]) (by omega)
          have hve : Vec (w4.drewN d1) gv0 (packB l0) n0 := ⟨_, _, by have h := ((HVR.out.below HB4.out).vo).drewN d1; rw [HBS0.out] at h; exact h, HPL0.out⟩
          have HAS1 := Lib.hid (asked_calls (w4.drewN d1) gv0 (packB l0) n0 hve _ _ _ (hsd.drewN d1) kd qn qm hqn hqm)
          clear hve
          go_upto_region 27 with (go_at_call 23; (with_reducible refine HAS1.out.mono ?_); rintro e w5 ⟨rfl, hb5⟩; (have HB5 := Lib.hid ((below_drewN HB4.out d1).trans (hb5.mono (below_drewN HB4.out d1).size))); (have HSD5 := Lib.hid ((hsd.drewN d1).keep hb5)); clear hb5)
          clear hsd HAS1
          have ha4 := HAR.out.below HB5.out
          have hok4 := HOK.out.below HB5.out
          have k9 : w5.cell? ⟨b, 0, none⟩ = some (.slice a0 n0 c0) := cell_of_row w5 b 0 _ _ _ ha4.r9
          have k10 : w5.cell? ⟨b + 2, 0, none⟩ = some (.pointer (some ⟨gs0, 0, none⟩)) := cell_of_row w5 (b + 2) 0 _ _ _ ha4.r11
          have j0 : w5.cell? ⟨bq, oq + i * 3, none⟩ = some (.int .i64 kd) := hok4.c0
          have j1 : w5.cell? ⟨bq, oq + i * 3 + 1, none⟩ = some (.int .i64 qn) := hok4.c1
          have j2 : w5.cell? ⟨bq, oq + i * 3 + 2, none⟩ = some (.int .i64 qm) := hok4.c2
          clear ha4 hok4
          refine wp_region_quiet_tail (fun w' => ∃ n, w' = w5.drewN n) 12 (by kernel_rfl) (by kernel_rfl) ⟨1, rfl⟩ ?_
          simp only [List.take_succ_cons, List.take_zero, List.drop_succ_cons, List.drop_zero]
          repeat (go_big_quiet_step (fail))
          refine wpQuiet_nil ?_
          rintro _ ⟨d2, rfl⟩
          clear k9 k10 j0 j1 j2
          have hve : Vec (w5.drewN d2) gs0 (packB l0) n0 := ⟨_, _, by have h := ((HVR.out.below HB5.out).vs).drewN d2; rw [HBS0.out] at h; exact h, HPL0.out⟩
          have HAS2 := Lib.hid (asked_calls (w5.drewN d2) gs0 (packB l0) n0 hve _ _ _ (HSD5.out.drewN d2) kd qn qm hqn hqm)
          clear hve
          go_wp2_with (go_at_call 23; (with_reducible refine HAS2.out.mono ?_); rintro e w6 ⟨rfl, hb6⟩; (have HB6 := Lib.hid ((below_drewN HB5.out d2).trans (hb6.mono (below_drewN HB5.out d2).size))); clear hb6)
          go_roundw
          case rel => exact ⟨i + 1, by go_num, by omega, HBR.out.trans (HB6.out.mono HBR.out.size)⟩
          case measure => simp [intOf]; omega
      · have ha : AR w wr b (#[.slice a0 n0 c0, .slice a1 n1 c1]) (#[.pointer (some ⟨gv0, 0, none⟩), .pointer (some ⟨gv1, 0, none⟩)]) (#[.pointer (some ⟨gs0, 0, none⟩), .pointer (some ⟨gs1, 0, none⟩)]) (#[.slice (some ⟨go0, 0, none⟩) bs0.length (bs0.length + 2), .slice (some ⟨go1, 0, none⟩) bs1.length (bs1.length + 2)]) (#[.slice aw0 bs0.length cw0, .slice aw1 bs1.length cw1]) := HA2.out.below HBR.out
        have hv : VR b wr n0 l0 bs0 go0 gv0 gs0 aw0 cw0 := HVF0.out.below HBR.out
        have hk := (H2.out.below (HBL.out.trans (HBR.out.mono HBL.out.size))).at_ i hin
        have hl2 := (H2.out).le
        have hm2 := (H2.out).max
        obtain ⟨bq, oq, rfl, hok⟩ := hk
        obtain ⟨q, hq⟩ : ∃ q, q = asks i := ⟨_, rfl⟩
        rw [← hq] at hok
        clear hq
        obtain ⟨kd, qn, qm⟩ := q
        have hqn : -9223372036854775808 ≤ qn ∧ qn ≤ 9223372036854775807 := hok.nr
        have hqm : -9223372036854775808 ≤ qm ∧ qm ≤ 9223372036854775807 := hok.mr
        have k9 : wr.cell? ⟨b, 0, none⟩ = some (.slice a0 n0 c0) := cell_of_row wr b 0 _ _ _ ha.r9
        have hsl := H0.out.keep ha.bl
        have HPK := Lib.hid (packed_calls wr _ _ _ _ hsl (by omega))
        have HAR := Lib.hid ha
        have HVR := Lib.hid hv
        have HOK := Lib.hid hok
        clear ha hv hok hsl
        go_upto_region 26 with (go_at_call 20; (with_reducible refine HPK.out.mono ?_); rintro e w4 ⟨g4, rfl, hg4, hr4, hb4⟩; (have HR4 := Lib.hid hr4); (have HB4 := Lib.hid hb4); clear hg4 hr4 hb4)
        clear k9 HPK
        have ha4 := HAR.out.below HB4.out
        have hok4 := HOK.out.below HB4.out
        have k9 : w4.cell? ⟨b, 0, none⟩ = some (.slice a0 n0 c0) := cell_of_row w4 b 0 _ _ _ ha4.r9
        have k10 : w4.cell? ⟨b + 1, 0, none⟩ = some (.pointer (some ⟨gv0, 0, none⟩)) := cell_of_row w4 (b + 1) 0 _ _ _ ha4.r10
        have j0 : w4.cell? ⟨bq, oq + i * 3, none⟩ = some (.int .i64 kd) := hok4.c0
        have j1 : w4.cell? ⟨bq, oq + i * 3 + 1, none⟩ = some (.int .i64 qn) := hok4.c1
        have j2 : w4.cell? ⟨bq, oq + i * 3 + 2, none⟩ = some (.int .i64 qm) := hok4.c2
        clear ha4 hok4
        refine wp_region_quiet_tail (fun w' => ∃ n, w' = w4.drewN n) 12 (by kernel_rfl) (by kernel_rfl) ⟨1, rfl⟩ ?_
        simp only [List.take_succ_cons, List.take_zero, List.drop_succ_cons, List.drop_zero]
        repeat (go_big_quiet_step (fail))
        refine wpQuiet_nil ?_
        rintro _ ⟨d1, rfl⟩
        clear k9 k10 j0 j1 j2
        have hsd := row_sl HR4.out (by rw [nums_len, HPL0.out]) (by omega)
        have hve : Vec (w4.drewN d1) gv0 (packB l0) n0 := ⟨_, _, by have h := ((HVR.out.below HB4.out).vo).drewN d1; rw [HBS0.out] at h; exact h, HPL0.out⟩
        have HAS1 := Lib.hid (asked_calls (w4.drewN d1) gv0 (packB l0) n0 hve _ _ _ (hsd.drewN d1) kd qn qm hqn hqm)
        clear hve
        go_upto_region 27 with (go_at_call 23; (with_reducible refine HAS1.out.mono ?_); rintro e w5 ⟨rfl, hb5⟩; (have HB5 := Lib.hid ((below_drewN HB4.out d1).trans (hb5.mono (below_drewN HB4.out d1).size))); (have HSD5 := Lib.hid ((hsd.drewN d1).keep hb5)); clear hb5)
        clear hsd HAS1
        have ha4 := HAR.out.below HB5.out
        have hok4 := HOK.out.below HB5.out
        have k9 : w5.cell? ⟨b, 0, none⟩ = some (.slice a0 n0 c0) := cell_of_row w5 b 0 _ _ _ ha4.r9
        have k10 : w5.cell? ⟨b + 2, 0, none⟩ = some (.pointer (some ⟨gs0, 0, none⟩)) := cell_of_row w5 (b + 2) 0 _ _ _ ha4.r11
        have j0 : w5.cell? ⟨bq, oq + i * 3, none⟩ = some (.int .i64 kd) := hok4.c0
        have j1 : w5.cell? ⟨bq, oq + i * 3 + 1, none⟩ = some (.int .i64 qn) := hok4.c1
        have j2 : w5.cell? ⟨bq, oq + i * 3 + 2, none⟩ = some (.int .i64 qm) := hok4.c2
        clear ha4 hok4
        refine wp_region_quiet_tail (fun w' => ∃ n, w' = w5.drewN n) 12 (by kernel_rfl) (by kernel_rfl) ⟨1, rfl⟩ ?_
        simp only [List.take_succ_cons, List.take_zero, List.drop_succ_cons, List.drop_zero]
        repeat (go_big_quiet_step (fail))
        refine wpQuiet_nil ?_
        rintro _ ⟨d2, rfl⟩
        clear k9 k10 j0 j1 j2
        have hve : Vec (w5.drewN d2) gs0 (packB l0) n0 := ⟨_, _, by have h := ((HVR.out.below HB5.out).vs).drewN d2; rw [HBS0.out] at h; exact h, HPL0.out⟩
        have HAS2 := Lib.hid (asked_calls (w5.drewN d2) gs0 (packB l0) n0 hve _ _ _ (HSD5.out.drewN d2) kd qn qm hqn hqm)
        clear hve
        go_wp2_with (go_at_call 23; (with_reducible refine HAS2.out.mono ?_); rintro e w6 ⟨rfl, hb6⟩; (have HB6 := Lib.hid ((below_drewN HB5.out d2).trans (hb6.mono (below_drewN HB5.out d2).size))); clear hb6)
        go_roundw
        case rel => exact ⟨i + 1, by go_num, by omega, HBR.out.trans (HB6.out.mono HBR.out.size)⟩
        case measure => simp [intOf]; omega
    · obtain rfl : i = n2 := by omega
      have ha : AR w wr b (#[.slice a0 n0 c0, .slice a1 n1 c1]) (#[.pointer (some ⟨gv0, 0, none⟩), .pointer (some ⟨gv1, 0, none⟩)]) (#[.pointer (some ⟨gs0, 0, none⟩), .pointer (some ⟨gs1, 0, none⟩)]) (#[.slice (some ⟨go0, 0, none⟩) bs0.length (bs0.length + 2), .slice (some ⟨go1, 0, none⟩) bs1.length (bs1.length + 2)]) (#[.slice aw0 bs0.length cw0, .slice aw1 bs1.length cw1]) := HA2.out.below HBR.out
      have hv0 := HVF0.out.below HBR.out
      have hv1 := HVF1.out.below HBR.out
      have k12a : wr.cell? ⟨b + 3, 0, none⟩ = some (.slice (some ⟨go0, 0, none⟩) bs0.length (bs0.length + 2)) := cell_of_row wr (b + 3) 0 _ _ _ ha.r12
      have k12b : wr.cell? ⟨b + 3, 1, none⟩ = some (.slice (some ⟨go1, 0, none⟩) bs1.length (bs1.length + 2)) := cell_of_row wr (b + 3) 1 _ _ _ ha.r12
      have k13a : wr.cell? ⟨b + 4, 0, none⟩ = some (.slice aw0 bs0.length cw0) := cell_of_row wr (b + 4) 0 _ _ _ ha.r13
      have k13b : wr.cell? ⟨b + 4, 1, none⟩ = some (.slice aw1 bs1.length cw1) := cell_of_row wr (b + 4) 1 _ _ _ ha.r13
      have HBA := Lib.hid (fun w' => drew_ex (w0 := wr) (w := w') (fun k => back_calls (wr.drewN k) go0 aw0 bs0.length cw0 (nums bs0) (hv0.ro.drewN k) (hv0.sw.drewN k) (by omega)))
      have HBB := Lib.hid (fun w' => drew_ex (w0 := wr) (w := w') (fun k => back_calls (wr.drewN k) go1 aw1 bs1.length cw1 (nums bs1) (hv1.ro.drewN k) (hv1.sw.drewN k) (by omega)))
      have HBZ := Lib.hid ha.bl
      clear ha hv0 hv1
      have HDW : ∃ k, wr = wr.drewN k := ⟨0, rfl⟩
      go_wp2_with (first
        | (go_at_call 18; (with_reducible refine (HBA.out _ HDW).mono ?_); rintro e wz ⟨rfl, hd⟩; (have j12b : wz.cell? ⟨b + 3, 1, none⟩ = some (.slice (some ⟨go1, 0, none⟩) bs1.length (bs1.length + 2)) := by obtain ⟨q, rfl⟩ := hd; exact k12b); (have j13b : wz.cell? ⟨b + 4, 1, none⟩ = some (.slice aw1 bs1.length cw1) := by obtain ⟨q, rfl⟩ := hd; exact k13b); (have HDW := hd); clear hd)
        | (go_at_call 18; (with_reducible refine (HBB.out _ HDW).mono ?_); rintro e wz ⟨rfl, hd⟩; (have HDW := hd); clear hd))
      go_ret
      obtain ⟨k, rfl⟩ := HDW
      exact ⟨rfl, below_drewN HBZ.out k⟩

end Go.Proofs.Ytpphjiialgmidaa
