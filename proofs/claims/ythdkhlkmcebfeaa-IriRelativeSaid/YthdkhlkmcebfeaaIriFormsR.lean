/- The document's short forms. -/
import Derived.Test.YthdkhlkmcebfeaaIriForms
import Derived.Test.YthdkhlkmcebfeaaIriWayR
set_option linter.unusedVariables false
set_option linter.unusedSimpArgs false
namespace Go.Proofs.Ythdkhlkmcebfeaa
open Go.RowKit Go.Tk
set_option maxHeartbeats 3000000 in
set_option maxRecDepth 100000 in
theorem rforms_calls (s g : ByteArray) (w : World) (hs : s.size ≤ 100000) (hg : g.size ≤ 100000) (hsc : sch g.data.toList ≠ 0) :
    Calls Try.prog 55 #[.string s, .string g] w fun e w' => ∃ v, e = .returned v ∧ OwL 9 w.heap.size w' v (fms (splitP s.data.toList) (splitP g.data.toList) g.data.toList ++ [g.data.toList]) ∧ Below w.heap.size w w' := by
  have hb := splitP_sum s.data.toList
  have ht := splitP_sum g.data.toList
  have hcut := text_cut hsc
  have hp1 := fun w => parts_calls s w (by omega)
  have hp2 := fun w => parts_calls g w (by omega)
  obtain ⟨b, hb0⟩ : ∃ b, b = splitP s.data.toList := ⟨_, rfl⟩
  obtain ⟨t, ht0⟩ : ∃ t, t = splitP g.data.toList := ⟨_, rfl⟩
  rw [← hb0] at hb hp1 ⊢
  rw [← ht0] at ht hp2 hcut ⊢
  rw [← Lib.size_eq] at hb ht
  have htail := fun w => rtail_calls t.sc t.au t.pa t.qu t.fr t.ha t.hq t.hf w (by unfold Prts.sum at ht; omega)
  have hway := fun w => rway_calls b t w (by omega) (by omega)
  have htx := fun w => rjoin_calls [] t.au t.pa t.qu t.fr t.ha t.hq t.hf w (by unfold Prts.sum at ht; simp; omega)
  have hbz : t.qu.length + t.fr.length + t.pa.length + t.sc.length ≤ 1000000 := by unfold Prts.sum at ht; omega
  have hbz2 : b.pa.length ≤ 1000000 := by unfold Prts.sum at hb; omega
  have htz := tail_len' t
  have hwaz := way_len b t
  have hfms : fms b t g.data.toList = [[]] ++ (if t.hf then [35 :: t.fr] else []) ++ (if t.hq then [t.tail] else []) ++ [way b t ++ t.tail, t.pa ++ t.tail] ++ (if t.ha then [g.data.toList.drop (t.sc.length + 1)] else []) := rfl
  have hi8 : (Try.prog.info? 34).map (·.size) = some 8 := by kernel_rfl
  have HI8 := Lib.hid hi8
  have HP1 : Hid (∀ w, Calls Try.prog 49 #[.string s] w fun e w' => e = .returned (.agg b.cells) ∧ Below w.heap.size w w') := Lib.hid hp1
  have HP2 : Hid (∀ w, Calls Try.prog 49 #[.string g] w fun e w' => e = .returned (.agg t.cells) ∧ Below w.heap.size w w') := Lib.hid hp2
  have HTAIL : Hid (∀ w, Calls Try.prog 69 #[.agg #[.string ⟨t.sc.toArray⟩, .string ⟨t.au.toArray⟩, .string ⟨t.pa.toArray⟩, .string ⟨t.qu.toArray⟩, .string ⟨t.fr.toArray⟩, .bool t.ha, .bool t.hq, .bool t.hf]] w fun e w' => e = .returned (.string ⟨t.tail.toArray⟩) ∧ Below w.heap.size w w') := Lib.hid htail
  have HTX : Hid (∀ w, Calls Try.prog 51 #[.agg ({ t with sc := [] } : Prts).cells] w fun e w' => e = .returned (.string ⟨(g.data.toList.drop (t.sc.length + 1)).toArray⟩) ∧ Below w.heap.size w w') := Lib.hid (fun w => by rw [← hcut.1]; exact htx w)
  have HWAY := Lib.hid hway
  have HFMS := Lib.hid hfms
  clear htail hway hfms hb ht hi8 hp1 hp2 htx hcut hb0 ht0 hsc
  go_enter Try.func55, Try.ntmps55
  go_wp2_with fail
  refine (HP1.out _).mono ?_
  rintro e w1 ⟨rfl, hb1⟩
  have B1 := Lib.hid hb1
  clear hb1
  go_wp2_with fail
  refine (HP2.out _).mono ?_
  rintro e w2 ⟨rfl, hb2⟩
  have b2 := B1.out.trans (hb2.mono B1.out.size)
  have hws := b2.size
  have B2 := Lib.hid b2
  clear hb2 b2
  have a1 : ((w2.alloc (.cells P0.cells 34)).alloc (.cells P0.cells 34)).heap[w2.heap.size]? = some (.cells P0.cells 34 (0, 0)) := by
    have h1 := heap_alloc_new w2 (.cells P0.cells 34)
    exact (Below.heap_alloc _ _ _ (lt_of_block h1)).trans h1
  have a2 : ((w2.alloc (.cells P0.cells 34)).alloc (.cells P0.cells 34)).heap[w2.heap.size + 1]? = some (.cells P0.cells 34 (0, 0)) := by
    have h1 := heap_alloc_new (w2.alloc (.cells P0.cells 34)) (.cells P0.cells 34)
    simp only [size_alloc1] at h1
    exact h1
  have a3 := setRow_heap _ w2.heap.size _ b.cells _ _ a1
  have a4 : (((w2.alloc (.cells P0.cells 34)).alloc (.cells P0.cells 34)).setRow w2.heap.size b.cells).heap[w2.heap.size + 1]? = some (.cells P0.cells 34 (0, 0)) := (setRow_other _ _ _ _ (by omega)).trans a2
  have a5 := setRow_heap _ (w2.heap.size + 1) _ t.cells _ _ a4
  have a6 : ((((w2.alloc (.cells P0.cells 34)).alloc (.cells P0.cells 34)).setRow w2.heap.size b.cells).setRow (w2.heap.size + 1) t.cells).heap[w2.heap.size]? = some (.cells b.cells 34 (0, 0)) := (setRow_other _ _ _ _ (by omega)).trans a3
  have b7 : Below w2.heap.size w2 ((((w2.alloc (.cells P0.cells 34)).alloc (.cells P0.cells 34)).setRow w2.heap.size b.cells).setRow (w2.heap.size + 1) t.cells) := by
    have h0 : Below w2.heap.size w2 ((w2.alloc (.cells P0.cells 34)).alloc (.cells P0.cells 34)) := ((Below.refl _ _).alloc (Nat.le_refl _) _).alloc (by simp) _
    exact ⟨h0.os, h0.tape, h0.output, by simpa using h0.size, fun k hk => ((setRow_other _ _ k _ (by omega)).trans (setRow_other _ _ k _ (by omega))).trans (h0.block k hk)⟩
  have A1 := Lib.hid a1
  have A4 := Lib.hid a4
  have A5 := Lib.hid a5
  have A6 := Lib.hid a6
  have B7 := Lib.hid b7
  clear a1 a2 a3 a4 a5 a6 b7
  go_upto_region 2 with (first
    | (refine wpList_store_row rfl 34 _ _ rfl w2.heap.size b.cells rfl rfl _ _ A1.out HI8.out rfl (Prts.one b) ?_)
    | (refine wpList_store_row rfl 34 _ _ rfl (w2.heap.size + 1) t.cells rfl rfl _ _ A4.out HI8.out rfl (Prts.one t) ?_))
  have hsz3 : ((((w2.alloc (.cells P0.cells 34)).alloc (.cells P0.cells 34)).setRow w2.heap.size b.cells).setRow (w2.heap.size + 1) t.cells).heap.size = w2.heap.size + 2 := by simp
  generalize hw3 : World.setRow _ (w2.heap.size + 1) t.cells = w3
  have a5 : w3.heap[w2.heap.size + 1]? = some (.cells t.cells 34 (0, 0)) := by rw [← hw3]; exact A5.out
  have a6 : w3.heap[w2.heap.size]? = some (.cells b.cells 34 (0, 0)) := by rw [← hw3]; exact A6.out
  have b7 : Below w2.heap.size w2 w3 := by rw [← hw3]; exact B7.out
  have hs3 : w3.heap.size = w2.heap.size + 2 := by rw [← hw3]; exact hsz3
  have HS3 := Lib.hid hs3
  have A5' := Lib.hid a5
  have A6' := Lib.hid a6
  have B7' := Lib.hid b7
  clear hw3 hsz3 a5 a6 b7 hs3 A1 A4 A5 A6 B7
  go_upto_region 3 with fail
  generalize hwx : World.alloc _ (.cells #[.string _] 9) = wx
  have hf0 : FG 34 9 (w2.heap.size + 2) w2.heap.size (w2.heap.size + 1) w wx b t (.slice (some ⟨w3.heap.size, 0, none⟩) 1 1) [[]] := by
    rw [← hwx]
    have ho := OwL.new (e := 9) (base := w2.heap.size + 2) (w := w3) [[]] (by rw [HS3.out]; omega) (by simp)
    have hbw : Below w.heap.size w w3 := B2.out.trans (B7'.out.mono hws)
    exact ⟨(Below.heap_alloc _ _ _ (lt_of_block A6'.out)).trans A6'.out, (Below.heap_alloc _ _ _ (lt_of_block A5'.out)).trans A5'.out, ho, hbw.alloc hbw.size _, by omega, by omega, by omega, by have := HS3.out; simp; omega⟩
  clear hwx
  obtain ⟨v0, hv0⟩ : ∃ v0 : Value, v0 = .slice (some ⟨w3.heap.size, 0, none⟩) 1 1 := ⟨_, rfl⟩
  rw [← hv0] at hf0 ⊢
  clear hv0 HS3 A5' A6' B7' B1 B2
  obtain ⟨xf, hxf⟩ : ∃ xf, xf = t.hf := ⟨_, rfl⟩
  obtain ⟨xq, hxq⟩ : ∃ xq, xq = t.hq := ⟨_, rfl⟩
  obtain ⟨xa, hxa⟩ : ∃ xa, xa = t.ha := ⟨_, rfl⟩
  have hfm := HFMS.out
  rw [← hxf, ← hxq, ← hxa] at hfm
  have HFM := Lib.hid hfm
  have HXF := Lib.hid hxf
  have HXQ := Lib.hid hxq
  have HXA := Lib.hid hxa
  clear HFMS hfm hxf hxq hxa
  have c7 := (row8' hf0.rt).2.2.2.2.2.2.2
  have c4 := (row8' hf0.rt).2.2.2.2.1
  rw [← HXF.out] at c7
  have HF0 := Lib.hid hf0
  have hbs := hf0.hb.2.2.2
  clear hf0
  go_upto_if 15 with fail
  go_cut [7] (fun v wx => FG 34 9 (w2.heap.size + 2) w2.heap.size (w2.heap.size + 1) w wx b t v ([[]] ++ if xf then [35 :: t.fr] else []))
  case first =>
    cases xf with
    | false =>
      go_wp2_with fail
      go_meet
      exact HF0.out
    | true =>
      go_wp2_with (at_builtin; go_loud (refine wpList_appL rfl _ _ 24 rfl (w2.heap.size + 2) 9 (.string ByteArray.empty) Try.underlying24 Try.infoStr zstr1 _ [[]] rfl (HF0.out.own.alloc _) wx.heap.size 1 1 [35 :: t.fr] rfl rfl (0, 0) (newc (mkcat [35] t.fr)) (by simp) (by simp; omega) ?_; intro v' w1 ho hg _; (have HF1 := Lib.hid ((HF0.out.alloc _).app ho hg)); clear ho hg))
      go_meet
      exact HF1.out
  case rest =>
  rename World => w4
  have hf1 := hcut
  clear hcut c7 c4 hbs
  obtain ⟨L1, hL1⟩ : ∃ L1, L1 = ([[]] ++ if xf then [35 :: t.fr] else [] : List (List UInt8)) := ⟨_, rfl⟩
  rw [← hL1] at hf1
  have hl1 : L1.length ≤ 2 := by rw [hL1]; cases xf <;> simp
  have HL1 := Lib.hid hL1
  have c6 := (row8' hf1.rt).2.2.2.2.2.2.1
  rw [← HXQ.out] at c6
  have HF1 := Lib.hid hf1
  have hbs := hf1.hb.2.2.2
  clear hL1 hf1
  go_upto_if 23 with fail
  go_cut [7] (fun v wx => FG 34 9 (w2.heap.size + 2) w2.heap.size (w2.heap.size + 1) w wx b t v (L1 ++ if xq then [t.tail] else []))
  case first =>
    cases xq with
    | false =>
      go_wp2_with fail
      go_meet
      rw [show L1 ++ (if false = true then [t.tail] else []) = L1 by simp]
      exact HF1.out
    | true =>
      go_wp2_with (first
        | (refine wpList_load_row rfl 34 _ rfl (w2.heap.size + 1) rfl _ t.cells _ _ HF1.out.rt Try.underlying34 rfl HI8.out ?_)
        | (go_at_call 69; refine (HTAIL.out _).mono ?_; rintro e w5 ⟨rfl, hb2⟩; (have HF2 := Lib.hid (HF1.out.later hb2)); (have hs2 := hb2.size); clear hb2)
        | (at_builtin; refine wpList_appL rfl _ _ 24 rfl (w2.heap.size + 2) 9 (.string ByteArray.empty) Try.underlying24 Try.infoStr zstr1 _ L1 rfl (HF2.out.own.alloc _) w5.heap.size 1 1 [t.tail] rfl rfl (0, 0) (newc rfl) (by simp; omega) (by simp; omega) ?_; intro v' w3 ho hg _; (have HF3 := Lib.hid ((HF2.out.alloc _).app ho hg)); clear ho hg))
      go_meet
      exact HF3.out
  case rest =>
  rename World => w5
  have hf4 := hcut
  clear hcut c6 hbs
  obtain ⟨L2, hL2⟩ : ∃ L2, L2 = (L1 ++ if xq then [t.tail] else [] : List (List UInt8)) := ⟨_, rfl⟩
  rw [← hL2] at hf4
  have hl2 : L2.length ≤ 3 := by rw [hL2]; cases xq <;> simp <;> omega
  have HL2 := Lib.hid hL2
  have HF4 := Lib.hid hf4
  obtain ⟨tl, htl⟩ : ∃ tl, tl = t.tail := ⟨_, rfl⟩
  obtain ⟨wy, hwy⟩ : ∃ wy, wy = way b t := ⟨_, rfl⟩
  have htail2 := HTAIL.out
  have hway2 := HWAY.out
  rw [← htl] at htail2 htz
  rw [← hwy] at hway2 hwaz
  have HTL2 := Lib.hid htail2
  have HWY2 := Lib.hid hway2
  have HTL := Lib.hid htl
  have HWY := Lib.hid hwy
  have b1 : (wy.length : Int) ≤ 8388608 := by omega
  have b2 : (tl.length : Int) ≤ 8388608 := by omega
  have b3 : (t.pa.length : Int) ≤ 8388608 := by omega
  have B1 := Lib.hid b1
  have B2 := Lib.hid b2
  have B3 := Lib.hid b3
  have hl2' : L2.length + 2 ≤ 8796093022208 := by omega
  clear hL2 hf4 htail2 hway2 htl hwy b1 b2 b3 hl1
  go_upto_region 7 with fail
  refine wh_start (S := fun w' => w'.heap[w2.heap.size]? = some (.cells b.cells 34 (0, 0)) ∧ w'.heap[w2.heap.size + 1]? = some (.cells t.cells 34 (0, 0))) 15 rfl (by kernel_rfl) ?_
  have HF5 := Lib.hid (HF4.out.drewN 1)
  refine wh_take 0 u7 rfl rfl (by kernel_rfl) (by kernel_rfl) (by kernel_rfl) (fun _ _ _ h => h) HF5.out.S (fun w' h => by simp [go_sem]) ?_
  refine wh_take 1 (.agg b.cells) rfl rfl (by kernel_rfl) (by kernel_rfl) (by kernel_rfl) (fun _ _ _ h => h) HF5.out.S (fun w' h => run_load_row 34 _ rfl w2.heap.size (by simp [go_sem]) _ b.cells _ _ w' h.1 Try.underlying34 rfl HI8.out) ?_
  refine wh_take 2 (.agg t.cells) rfl rfl (by kernel_rfl) (by kernel_rfl) (by kernel_rfl) (fun _ _ _ h => h) HF5.out.S (fun w' h => run_load_row 34 _ rfl (w2.heap.size + 1) (by simp [go_sem]) _ t.cells _ _ w' h.2 Try.underlying34 rfl HI8.out) ?_
  refine wh_take 4 (.agg t.cells) rfl rfl (by kernel_rfl) (by kernel_rfl) (by kernel_rfl) (fun _ _ _ h => h) HF5.out.S (fun w' h => run_load_row 34 _ rfl (w2.heap.size + 1) (by simp [go_sem]) _ t.cells _ _ w' h.2 Try.underlying34 rfl HI8.out) ?_
  refine wh_take 7 (.pointer (some ⟨w2.heap.size + 1, 2, none⟩)) rfl rfl (by kernel_rfl) (by kernel_rfl) (by kernel_rfl) (fun _ _ _ h => h) HF5.out.S (fun w' h => by simp [go_sem]) ?_
  refine wh_take 8 (.string ⟨t.pa.toArray⟩) rfl rfl (by kernel_rfl) (by kernel_rfl) (by kernel_rfl) (fun _ _ _ h => h) HF5.out.S (fun w' h => by have := (row8' h.2).2.2.1; simp [go_sem, this]) ?_
  refine wh_take 9 (.agg t.cells) rfl rfl (by kernel_rfl) (by kernel_rfl) (by kernel_rfl) (fun _ _ _ h => h) HF5.out.S (fun w' h => run_load_row 34 _ rfl (w2.heap.size + 1) (by simp [go_sem]) _ t.cells _ _ w' h.2 Try.underlying34 rfl HI8.out) ?_
  refine wh_call 3 (.string ⟨wy.toArray⟩) (fun w' => FG 34 9 (w2.heap.size + 2) w2.heap.size (w2.heap.size + 1) w w' b t u7 L2) rfl rfl (by kernel_rfl) (by simp [go_sem]; exact ⟨rfl, rfl⟩) ((HWY2.out _).mono fun _ _ ⟨h1, h2⟩ => ⟨h1, HF5.out.later h2⟩) (fun _ h => h.S) ?_
  intro w6 hf6
  have HF6 := Lib.hid hf6
  clear hf6
  refine wh_call 5 (.string ⟨tl.toArray⟩) (fun w' => FG 34 9 (w2.heap.size + 2) w2.heap.size (w2.heap.size + 1) w w' b t u7 L2) rfl rfl (by kernel_rfl) (by simp [go_sem]; rfl) ((HTL2.out _).mono fun _ _ ⟨h1, h2⟩ => ⟨h1, HF6.out.later h2⟩) (fun _ h => h.S) ?_
  intro w7 hf7
  have HF7 := Lib.hid hf7
  clear hf7
  refine wh_take 6 (.string ⟨(wy ++ tl).toArray⟩) rfl rfl (by kernel_rfl) (by kernel_rfl) (by kernel_rfl) (fun _ _ _ h => h) HF7.out.S (fun w' h => by have := run_string_add_lists (P := Try.prog) w' wy tl B1.out B2.out; simp [go_sem, this]) ?_
  refine wh_call 10 (.string ⟨tl.toArray⟩) (fun w' => FG 34 9 (w2.heap.size + 2) w2.heap.size (w2.heap.size + 1) w w' b t u7 L2) rfl rfl (by kernel_rfl) (by simp [go_sem]; rfl) ((HTL2.out _).mono fun _ _ ⟨h1, h2⟩ => ⟨h1, HF7.out.later h2⟩) (fun _ h => h.S) ?_
  intro w8 hf8
  have HF8 := Lib.hid hf8
  clear hf8
  refine wh_take 11 (.string ⟨(t.pa ++ tl).toArray⟩) rfl rfl (by kernel_rfl) (by kernel_rfl) (by kernel_rfl) (fun _ _ _ h => h) HF8.out.S (fun w' h => by have := run_string_add_lists (P := Try.prog) w' t.pa tl B3.out B2.out; simp [go_sem, this]) ?_
  refine wh_step 12 (.slice (some ⟨w8.heap.size, 0, none⟩) 2 2) (w' := w8.alloc (.cells #[.string ⟨(wy ++ tl).toArray⟩, .string ⟨(t.pa ++ tl).toArray⟩] 9)) rfl rfl (by kernel_rfl) (by simp [go_sem]) (HF8.out.alloc _).S ?_
  refine wh_ex 13 (fun v' w' => OwL 9 (w2.heap.size + 2) w' v' (L2 ++ [wy ++ tl, t.pa ++ tl]) ∧ (w8.alloc (.cells #[.string ⟨(wy ++ tl).toArray⟩, .string ⟨(t.pa ++ tl).toArray⟩] 9)).grownBy w' u7.ownBlock) rfl rfl (by kernel_rfl)
    (run_appL (.tmp 29) (.tmp 41) 24 rfl (w2.heap.size + 2) 9 (.string ByteArray.empty) Try.underlying24 Try.infoStr zstr1 u7 L2 (by simp [go_sem]) (HF8.out.own.alloc _) w8.heap.size 2 2 [wy ++ tl, t.pa ++ tl] (by simp [go_sem]) rfl (0, 0) (newc2 rfl rfl) hl2' (by have := HF8.out.hb.2.2.2; simp; omega))
    (fun v' w' h => ((HF8.out.alloc _).app h.1 h.2).S) ?_
  rintro v9 w9 ⟨ho, hg⟩
  have hf9 := ((HF8.out.alloc _).app ho hg)
  refine wh_step 14 v9 (w' := w9) rfl rfl (by kernel_rfl) (by simp [go_sem]) hf9.S ?_
  refine wpAnyH_done (by kernel_rfl) ?_ 0
  have c5 := (row8' hf9.rt).2.2.2.2.2.1
  rw [← HXA.out] at c5
  obtain ⟨L3, hL3⟩ : ∃ L3, L3 = L2 ++ [wy ++ tl, t.pa ++ tl] := ⟨_, rfl⟩
  have hl3 : L3.length ≤ 5 := by rw [hL3]; simp; omega
  have hfin : fms b t g.data.toList = L3 ++ (if xa then [g.data.toList.drop (t.sc.length + 1)] else []) := by rw [HFM.out, hL3, HL2.out, HL1.out, HTL.out, HWY.out]
  rw [← hL3] at hf9
  have hb9 := hf9.hb.2.2.2
  have HF10 := Lib.hid hf9
  have HFIN := Lib.hid hfin
  clear ho hg hf9 hL3 hfin hl2 hl2'
  cases xa with
  | false =>
    go_wp2_with (at_builtin; go_loud (refine wpList_appL rfl _ _ 24 rfl (w2.heap.size + 2) 9 (.string ByteArray.empty) Try.underlying24 Try.infoStr zstr1 _ L3 rfl (HF10.out.own.alloc _) w9.heap.size 1 1 [g.data.toList] rfl rfl (0, 0) (newc (mk_self g)) (by simp; omega) (by simp; omega) ?_; intro v' w10 ho hg _; (have HF11 := Lib.hid ((HF10.out.alloc _).app ho hg)); clear ho hg))
    go_ret
    exact ⟨_, rfl, by rw [HFIN.out]; simpa using HF11.out.own.mono (by omega), HF11.out.below⟩
  | true =>
    have d1 : (w9.alloc (.cells P0.cells 34)).heap[w9.heap.size]? = some (.cells P0.cells 34 (0, 0)) := heap_alloc_new _ _
    have d2 := setRow_heap _ w9.heap.size _ t.cells _ _ d1
    have b8 : Below w9.heap.size w9 ((w9.alloc (.cells P0.cells 34)).setRow w9.heap.size t.cells) := by
      have h0 : Below w9.heap.size w9 (w9.alloc (.cells P0.cells 34)) := (Below.refl _ _).alloc (Nat.le_refl _) _
      exact ⟨h0.os, h0.tape, h0.output, by simp, fun k hk => (setRow_other _ _ k _ (by omega)).trans (h0.block k hk)⟩
    have D1 := Lib.hid d1
    have D2 := Lib.hid d2
    have B8 := Lib.hid b8
    clear d1 d2 b8
    go_upto_region 9 with fail
    go_upto_region 10 with (first
      | (refine wpList_load_row rfl 34 _ rfl (w2.heap.size + 1) rfl _ t.cells _ _ HF10.out.rt Try.underlying34 rfl HI8.out ?_)
      | (refine wpList_store_row rfl 34 _ _ rfl w9.heap.size t.cells rfl rfl _ _ D1.out HI8.out rfl (Prts.one t) ?_))
    generalize hwz : World.setRow _ w9.heap.size t.cells = wz
    have d2 : wz.heap[w9.heap.size]? = some (.cells t.cells 34 (0, 0)) := by rw [← hwz]; exact D2.out
    have b8 : Below w9.heap.size w9 wz := by rw [← hwz]; exact B8.out
    have c8 := (row8' d2).1
    have f8 := frozen_of_row _ _ 0 _ _ d2
    have d3 : (wz.setCell ⟨w9.heap.size, 0, none⟩ (.string ⟨#[]⟩)).heap[w9.heap.size]? = some (.cells ({ t with sc := [] } : Prts).cells 34 (0, 0)) := heap_setCell_same _ _ _ _ _ _ d2
    have D3 := Lib.hid d3
    have HF11 := Lib.hid (HF10.out.later (b8.setCell (p := ⟨w9.heap.size, 0, none⟩) (Nat.le_refl _) (.string ⟨#[]⟩)))
    clear d2 d3 b8 hwz D2 B8
    go_upto_region 11 with fail
    generalize hw10 : World.setCell _ _ _ = w10
    have d3 : w10.heap[w9.heap.size]? = some (.cells ({ t with sc := [] } : Prts).cells 34 (0, 0)) := by rw [← hw10]; exact D3.out
    have hf12 : FG 34 9 (w2.heap.size + 2) w2.heap.size (w2.heap.size + 1) w w10 b t v9 L3 := by rw [← hw10]; exact HF11.out
    have HF12 := Lib.hid hf12
    have D4 := Lib.hid d3
    have hb12 := hf12.hb.2.2.2
    clear hw10 d3 hf12 D1 D3 HF11 c8 f8
    go_upto_region 12 with (first
      | (refine wpList_load_row rfl 34 _ rfl w9.heap.size rfl _ ({ t with sc := [] } : Prts).cells _ _ D4.out Try.underlying34 rfl HI8.out ?_)
      | (go_at_call 51; refine (HTX.out _).mono ?_; rintro e w11 ⟨rfl, hb11⟩; (have HF13 := Lib.hid (HF12.out.later hb11)); (have hs11 := hb11.size); clear hb11)
      | (at_builtin; refine wpList_appL rfl _ _ 24 rfl (w2.heap.size + 2) 9 (.string ByteArray.empty) Try.underlying24 Try.infoStr zstr1 _ L3 rfl (HF13.out.own.alloc _) w11.heap.size 1 1 [g.data.toList.drop (t.sc.length + 1)] rfl rfl (0, 0) (newc rfl) (by simp; omega) (by simp; omega) ?_; intro v' w12 ho hg _; (have hf14 := ((HF13.out.alloc _).app ho hg)); (have hb14 := hf14.hb.2.2.2); (have HF14 := Lib.hid hf14); clear ho hg hf14))
    go_wp2_with (at_builtin; go_loud (refine wpList_appL rfl _ _ 24 rfl (w2.heap.size + 2) 9 (.string ByteArray.empty) Try.underlying24 Try.infoStr zstr1 _ (L3 ++ [g.data.toList.drop (t.sc.length + 1)]) rfl (HF14.out.own.alloc _) w12.heap.size 1 1 [g.data.toList] rfl rfl (0, 0) (newc (mk_self g)) (by simp; omega) (by simp; omega) ?_; intro v' w13 ho hg _; (have HF15 := Lib.hid ((HF14.out.alloc _).app ho hg)); clear ho hg))
    go_ret
    exact ⟨_, rfl, by rw [HFIN.out]; simpa using HF15.out.own.mono (by omega), HF15.out.below⟩
end Go.Proofs.Ythdkhlkmcebfeaa
