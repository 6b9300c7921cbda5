/- The program's target: the parts of what a reference means at a base. -/
import Derived.Test.YthdkhlkmcebfeaaIriAb
import Derived.Test.YthdkhlkmcebfeaaQu
import Derived.Deep.RegionHeld3
import Derived.Laws.Concat
set_option linter.unusedVariables false
set_option linter.unusedSimpArgs false
namespace Go.Tk
open Go Go.RowKit
theorem size_alloc1 (w : World) (o : Obj) : (w.alloc o).heap.size = w.heap.size + 1 := by simp
theorem byteAt0 {b : ByteArray} {c : UInt8} {q : List UInt8} (h : b.data.toList = c :: q) (h0 : 0 < b.size) : b[0] = c := by
  have e : b.data.toList[0]? = some c := by rw [h]; rfl
  rw [Array.getElem?_toList] at e
  exact (Array.getElem?_eq_some_iff.1 e).2
/-- While target runs: the base, the reference, the answer's room, the parts so far. -/
structure TG (T : TypeId) (w wx : World) (b r t : Prts) : Prop where
  rb : wx.heap[w.heap.size]? = some (.cells b.cells T (0, 0))
  rr : wx.heap[w.heap.size + 1]? = some (.cells r.cells T (0, 0))
  rz : wx.heap[w.heap.size + 2]? = some (.cells P0.cells T (0, 0))
  rt : wx.heap[w.heap.size + 3]? = some (.cells t.cells T (0, 0))
  below : Below w.heap.size w wx
theorem TG.start (T : TypeId) (w : World) (b r : Prts) : TG T w (World.setRow ((((w.alloc (.cells b.cells T)).alloc (.cells r.cells T)).alloc (.cells P0.cells T)).alloc (.cells P0.cells T)) (w.heap.size + 3) r.cells) b r r := by
  have h0 := heap_alloc_new w (.cells b.cells T)
  have h1 := heap_alloc_new (w.alloc (.cells b.cells T)) (.cells r.cells T)
  have h2 := heap_alloc_new ((w.alloc (.cells b.cells T)).alloc (.cells r.cells T)) (.cells P0.cells T)
  have h3 := heap_alloc_new (((w.alloc (.cells b.cells T)).alloc (.cells r.cells T)).alloc (.cells P0.cells T)) (.cells P0.cells T)
  simp only [size_alloc1] at h1 h2 h3
  have hb : Below w.heap.size w ((((w.alloc (.cells b.cells T)).alloc (.cells r.cells T)).alloc (.cells P0.cells T)).alloc (.cells P0.cells T)) :=
    ((((Below.refl _ _).alloc (Nat.le_refl _) _).alloc (by simp) _).alloc (by simp; omega) _).alloc (by simp; omega) _
  have a1 : ∀ (X : World) (o : Obj) (k : Nat) (v : Obj), X.heap[k]? = some v → (X.alloc o).heap[k]? = some v := fun X o k v h => (Below.heap_alloc X o k (lt_of_block h)).trans h
  refine ⟨?_, ?_, ?_, ?_, ?_⟩
  · rw [setRow_other _ _ _ _ (by omega)]; exact a1 _ _ _ _ (a1 _ _ _ _ (a1 _ _ _ _ h0))
  · rw [setRow_other _ _ _ _ (by omega)]; exact a1 _ _ _ _ (a1 _ _ _ _ h1)
  · rw [setRow_other _ _ _ _ (by omega)]; exact a1 _ _ _ _ h2
  · exact setRow_heap _ _ _ _ _ _ h3
  · exact ⟨hb.os, hb.tape, hb.output, by simpa using hb.size, fun k hk => (setRow_other _ _ k _ (by omega)).trans (hb.block k hk)⟩
theorem TG.size {T : TypeId} {w wx : World} {b r t : Prts} (h : TG T w wx b r t) : w.heap.size + 3 < wx.heap.size := lt_of_block h.rt
theorem TG.later {T : TypeId} {w wx w' : World} {b r t : Prts} (h : TG T w wx b r t) (hb : Below wx.heap.size wx w') : TG T w w' b r t where
  rb := (hb.block _ (by have := h.size; omega)).trans h.rb
  rr := (hb.block _ (by have := h.size; omega)).trans h.rr
  rz := (hb.block _ (by have := h.size; omega)).trans h.rz
  rt := (hb.block _ h.size).trans h.rt
  below := h.below.trans (hb.mono h.below.size)
theorem TG.drewN {T : TypeId} {w wx : World} {b r t : Prts} (h : TG T w wx b r t) (n : Nat) : TG T w (wx.drewN n) b r t := ⟨h.rb, h.rr, h.rz, h.rt, Go.Tk.below_drewN h.below n⟩
theorem TG.set {T : TypeId} {w wx : World} {b r t q : Prts} (h : TG T w wx b r t) (i : Nat) (v : Value) (hv : t.cells.setIfInBounds i v = q.cells) : TG T w (wx.setCell ⟨w.heap.size + 3, i, none⟩ v) b r q where
  rb := (Below.heap_setCell _ _ _ _ (by simp)).trans h.rb
  rr := (Below.heap_setCell _ _ _ _ (by simp)).trans h.rr
  rz := (Below.heap_setCell _ _ _ _ (by simp)).trans h.rz
  rt := by rw [heap_setCell_same _ _ _ _ _ _ h.rt, hv]
  below := h.below.setCell (by simp) _
theorem TG.fin {T : TypeId} {w wx : World} {b r t : Prts} (h : TG T w wx b r t) : (wx.setRow (w.heap.size + 2) t.cells).heap[w.heap.size + 2]? = some (.cells t.cells T (0, 0)) ∧ Below w.heap.size w (wx.setRow (w.heap.size + 2) t.cells) :=
  ⟨setRow_heap _ _ _ _ _ _ h.rz, h.below.os, h.below.tape, h.below.output, by simpa using h.below.size, fun k hk => (setRow_other _ _ k _ (by omega)).trans (h.below.block k hk)⟩
theorem far3 {g h : Nat} (w : World) (n : g ≠ h) {i j : Nat} {v : Value} : (w.setCell ⟨g, i, none⟩ v).cell? ⟨h, j, none⟩ = w.cell? ⟨h, j, none⟩ := World.cell?_setCell_far _ _ _ _ n
theorem row8' {w : World} {g : Nat} {T : TypeId} {p : Prts} (h : w.heap[g]? = some (.cells p.cells T (0, 0))) :
    w.cell? ⟨g, 0, none⟩ = some (.string ⟨p.sc.toArray⟩) ∧ w.cell? ⟨g, 1, none⟩ = some (.string ⟨p.au.toArray⟩) ∧ w.cell? ⟨g, 2, none⟩ = some (.string ⟨p.pa.toArray⟩) ∧ w.cell? ⟨g, 3, none⟩ = some (.string ⟨p.qu.toArray⟩) ∧ w.cell? ⟨g, 4, none⟩ = some (.string ⟨p.fr.toArray⟩) ∧ w.cell? ⟨g, 5, none⟩ = some (.bool p.ha) ∧ w.cell? ⟨g, 6, none⟩ = some (.bool p.hq) ∧ w.cell? ⟨g, 7, none⟩ = some (.bool p.hf) :=
  ⟨cell_of_row _ _ 0 _ _ _ h, cell_of_row _ _ 1 _ _ _ h, cell_of_row _ _ 2 _ _ _ h, cell_of_row _ _ 3 _ _ _ h, cell_of_row _ _ 4 _ _ _ h, cell_of_row _ _ 5 _ _ _ h, cell_of_row _ _ 6 _ _ _ h, cell_of_row _ _ 7 _ _ _ h⟩
end Go.Tk
namespace Go.Proofs.Ythdkhlkmcebfeaa
open Go.RowKit Go.Tk
set_option maxHeartbeats 4000000 in
set_option maxRecDepth 100000 in
theorem target_calls (b r : Prts) (w : World) (hb : b.sum ≤ 1000000) (hr : r.sum ≤ 1000000) :
    Calls Try.prog 52 #[.agg #[.string ⟨b.sc.toArray⟩, .string ⟨b.au.toArray⟩, .string ⟨b.pa.toArray⟩, .string ⟨b.qu.toArray⟩, .string ⟨b.fr.toArray⟩, .bool b.ha, .bool b.hq, .bool b.hf], .agg #[.string ⟨r.sc.toArray⟩, .string ⟨r.au.toArray⟩, .string ⟨r.pa.toArray⟩, .string ⟨r.qu.toArray⟩, .string ⟨r.fr.toArray⟩, .bool r.ha, .bool r.hq, .bool r.hf]] w fun e w' => e = .returned (targetP b r).val ∧ Below w.heap.size w w' := by
  have hst := TG.start 34 w b r
  have hi8 : (Try.prog.info? 34).map (·.size) = some 8 := by kernel_rfl
  have ha1 : (((w.alloc (.cells b.cells 34)).alloc (.cells r.cells 34)).alloc (.cells P0.cells 34)).heap[w.heap.size + 1]? = some (.cells r.cells 34 (0, 0)) := by
    have h1 := heap_alloc_new (w.alloc (.cells b.cells 34)) (.cells r.cells 34)
    simp only [size_alloc1] at h1
    exact (Below.heap_alloc _ _ _ (lt_of_block h1)).trans h1
  have ha3 : ((((w.alloc (.cells b.cells 34)).alloc (.cells r.cells 34)).alloc (.cells P0.cells 34)).alloc (.cells P0.cells 34)).heap[w.heap.size + 3]? = some (.cells P0.cells 34 (0, 0)) := by
    have h3 := heap_alloc_new (((w.alloc (.cells b.cells 34)).alloc (.cells r.cells 34)).alloc (.cells P0.cells 34)) (.cells P0.cells 34)
    simp only [size_alloc1] at h3
    exact h3
  have HST := Lib.hid hst
  have HI8 := Lib.hid hi8
  have HA1 := Lib.hid ha1
  have HA3 := Lib.hid ha3
  clear hst hi8 ha1 ha3
  go_enter Try.func52, Try.ntmps52
  go_upto_region 2 with (first
    | (refine wpList_load_row rfl 34 _ rfl (w.heap.size + 1) rfl _ _ _ _ HA1.out Try.underlying34 rfl HI8.out ?_)
    | (refine wpList_store_row rfl 34 _ _ rfl (w.heap.size + 3) _ rfl rfl _ _ HA3.out HI8.out rfl (Prts.one r) ?_))
  generalize hwx : World.setRow _ (w.heap.size + 3) r.cells = wx
  have ht : TG 34 w wx b r r := by rw [← hwx]; exact HST.out
  have HT := Lib.hid ht
  obtain ⟨cb0, cb1, cb2, cb3, cb4, cb5, cb6, cb7⟩ := row8' ht.rb
  obtain ⟨cr0, cr1, cr2, cr3, cr4, cr5, cr6, cr7⟩ := row8' ht.rr
  obtain ⟨ct0, ct1, ct2, ct3, ct4, ct5, ct6, ct7⟩ := row8' ht.rt
  have ft := fun i => frozen_of_row _ _ i _ _ ht.rt
  clear hwx ht HST HA1 HA3
  have hcl := clean_calls ⟨r.pa.toArray⟩ (hs := by rw [Lib.size_eq]; simp; unfold Prts.sum at hr; omega)
  have HCL := Lib.hid hcl
  clear hcl
  cases e0 : r.sc.isEmpty with
  | false =>
    have htg : targetP b r = { r with pa := cl r.pa [] } := by unfold targetP; rw [if_pos e0]
    have HTG := Lib.hid htg
    clear htg
    go_upto_region 4 with (go_at_call 14; refine (HCL.out _).mono ?_; rintro e w1 ⟨rfl, hb1⟩; (have ht1 := HT.out.later hb1); (have k1 := (row8' ht1.rt).2.2.1); (have k0 := (row8' ht1.rt).1); (have cb0' := (row8' ht1.rb).1); (have f1 := fun i => frozen_of_row _ _ i _ _ ht1.rt); (have HT1 := Lib.hid ht1); clear hb1 ht1)
    generalize hw2 : World.setCell w1 _ _ = w2
    have h2 : TG 34 w w2 b r (targetP b r) := by rw [← hw2, HTG.out]; exact HT1.out.set 2 _ rfl
    clear hw2
    have hrow := h2.rt
    have hres := h2.rz
    obtain ⟨hnew, hbn⟩ := h2.fin
    have HROW := Lib.hid hrow
    have HRES := Lib.hid hres
    have HNEW := Lib.hid hnew
    clear hrow hres hnew h2
    go_wp2_with (first
      | (refine wpList_load_row rfl 34 _ rfl (w.heap.size + 3) rfl _ _ _ _ HROW.out Try.underlying34 rfl HI8.out ?_)
      | (refine wpList_store_row rfl 34 _ _ rfl (w.heap.size + 2) _ rfl rfl _ _ HRES.out HI8.out rfl (Prts.one _) ?_))
    exact bodyPost_ret (results_cell_row rfl _ _ (w.heap.size + 2) _ _ _ _ rfl HNEW.out Try.underlying34 rfl HI8.out) rfl ⟨rfl, hbn⟩
  | true =>
    cases e1 : r.ha with
    | true =>
      have htg : targetP b r = { r with pa := cl r.pa [], sc := b.sc } := by unfold targetP; rw [if_neg (by simp [e0]), if_pos e1]
      have HTG := Lib.hid htg
      clear htg
      go_upto_region 8 with (go_at_call 14; refine (HCL.out _).mono ?_; rintro e w1 ⟨rfl, hb1⟩; (have ht1 := HT.out.later hb1); (have k1 := (row8' ht1.rt).2.2.1); (have k0 := (row8' ht1.rt).1); (have cb0' := (row8' ht1.rb).1); (have f1 := fun i => frozen_of_row _ _ i _ _ ht1.rt); (have HT1 := Lib.hid ht1); clear hb1 ht1)
      generalize hw2 : World.setCell (World.setCell w1 _ _) _ _ = w2
      have h2 : TG 34 w w2 b r (targetP b r) := by rw [← hw2, HTG.out]; exact (HT1.out.set 2 _ (q := { r with pa := cl r.pa [] }) rfl).set 0 _ rfl
      clear hw2
      have hrow := h2.rt
      have hres := h2.rz
      obtain ⟨hnew, hbn⟩ := h2.fin
      have HROW := Lib.hid hrow
      have HRES := Lib.hid hres
      have HNEW := Lib.hid hnew
      clear hrow hres hnew h2
      go_wp2_with (first
        | (refine wpList_load_row rfl 34 _ rfl (w.heap.size + 3) rfl _ _ _ _ HROW.out Try.underlying34 rfl HI8.out ?_)
        | (refine wpList_store_row rfl 34 _ _ rfl (w.heap.size + 2) _ rfl rfl _ _ HRES.out HI8.out rfl (Prts.one _) ?_))
      exact bodyPost_ret (results_cell_row rfl _ _ (w.heap.size + 2) _ _ _ _ rfl HNEW.out Try.underlying34 rfl HI8.out) rfl ⟨rfl, hbn⟩
    | false =>
      go_upto_region 9 with fail
      have n3 : w.heap.size + 1 + 1 + 1 ≠ w.heap.size := by omega
      go_region_held3 (fun w' => w'.cell? ⟨w.heap.size, 0, none⟩ = some (.string ⟨b.sc.toArray⟩) ∧ w'.cell? ⟨w.heap.size, 1, none⟩ = some (.string ⟨b.au.toArray⟩) ∧ w'.cell? ⟨w.heap.size, 5, none⟩ = some (.bool b.ha)) (((try dsimp only); (try refine ⟨?_, ?_, ?_⟩) <;> ((try rw [World.cell?_drew]); (first | assumption | (rw [far3 _ n3]; assumption) | (rw [far3 _ n3, far3 _ n3]; assumption) | (rw [far3 _ n3, far3 _ n3, far3 _ n3]; assumption))))) (fail)
      generalize hw2 : World.drew _ = w2
      have ht2 : TG 34 w w2 b r { r with sc := b.sc, au := b.au, ha := b.ha } := by rw [← hw2]; exact (((HT.out.set 0 _ (q := { r with sc := b.sc }) rfl).set 1 _ (q := { r with sc := b.sc, au := b.au }) rfl).set 5 _ (q := { r with sc := b.sc, au := b.au, ha := b.ha }) rfl).drewN 1
      clear hw2 cb0 cb1 cb2 cb3 cb4 cb5 cb6 cb7 cr0 cr1 cr2 cr3 cr4 cr5 cr6 cr7 ct0 ct1 ct2 ct3 ct4 ct5 ct6 ct7 ft HT
      have HT := Lib.hid ht2
      obtain ⟨cb0, cb1, cb2, cb3, cb4, cb5, cb6, cb7⟩ := row8' ht2.rb
      obtain ⟨cr0, cr1, cr2, cr3, cr4, cr5, cr6, cr7⟩ := row8' ht2.rr
      obtain ⟨ct0, ct1, ct2, ct3, ct4, ct5, ct6, ct7⟩ := row8' ht2.rt
      have ft := fun i => frozen_of_row _ _ i _ _ ht2.rt
      clear ht2
      cases e2 : r.pa.isEmpty with
      | true =>
        cases e3 : r.hq with
        | true =>
          have htg : targetP b r = { r with sc := b.sc, au := b.au, ha := b.ha, pa := b.pa } := by unfold targetP; rw [if_neg (by simp [e0]), if_neg (by simp [e1]), if_pos e2, if_pos e3]
          have HTG := Lib.hid htg
          clear htg
          go_upto_region 17 with fail
          generalize hw3 : World.setCell w2 _ _ = w3
          have h2 : TG 34 w w3 b r (targetP b r) := by rw [← hw3, HTG.out]; exact HT.out.set 2 _ rfl
          clear hw3
          have hrow := h2.rt
          have hres := h2.rz
          obtain ⟨hnew, hbn⟩ := h2.fin
          have HROW := Lib.hid hrow
          have HRES := Lib.hid hres
          have HNEW := Lib.hid hnew
          clear hrow hres hnew h2
          go_wp2_with (first
            | (refine wpList_load_row rfl 34 _ rfl (w.heap.size + 3) rfl _ _ _ _ HROW.out Try.underlying34 rfl HI8.out ?_)
            | (refine wpList_store_row rfl 34 _ _ rfl (w.heap.size + 2) _ rfl rfl _ _ HRES.out HI8.out rfl (Prts.one _) ?_))
          exact bodyPost_ret (results_cell_row rfl _ _ (w.heap.size + 2) _ _ _ _ rfl HNEW.out Try.underlying34 rfl HI8.out) rfl ⟨rfl, hbn⟩
        | false =>
          have htg : targetP b r = { r with sc := b.sc, au := b.au, ha := b.ha, pa := b.pa, qu := b.qu, hq := b.hq } := by unfold targetP; rw [if_neg (by simp [e0]), if_neg (by simp [e1]), if_pos e2, if_neg (by simp [e3])]
          have HTG := Lib.hid htg
          clear htg
          go_upto_region 14 with fail
          generalize hw3 : World.setCell w2 _ _ = w3
          have ht3 : TG 34 w w3 b r { r with sc := b.sc, au := b.au, ha := b.ha, pa := b.pa } := by rw [← hw3]; exact HT.out.set 2 _ rfl
          clear hw3 cb0 cb1 cb2 cb3 cb4 cb5 cb6 cb7 cr0 cr1 cr2 cr3 cr4 cr5 cr6 cr7 ct0 ct1 ct2 ct3 ct4 ct5 ct6 ct7 ft HT
          have HT := Lib.hid ht3
          obtain ⟨cb0, cb1, cb2, cb3, cb4, cb5, cb6, cb7⟩ := row8' ht3.rb
          obtain ⟨ct0, ct1, ct2, ct3, ct4, ct5, ct6, ct7⟩ := row8' ht3.rt
          have ft := fun i => frozen_of_row _ _ i _ _ ht3.rt
          clear ht3
          go_region_held3 (fun w' => w'.cell? ⟨w.heap.size, 3, none⟩ = some (.string ⟨b.qu.toArray⟩) ∧ w'.cell? ⟨w.heap.size, 6, none⟩ = some (.bool b.hq)) (((try dsimp only); (try refine ⟨?_, ?_⟩) <;> ((try rw [World.cell?_drew]); (first | assumption | (rw [far3 _ n3]; assumption) | (rw [far3 _ n3, far3 _ n3]; assumption))))) (fail)
          generalize hw4 : World.drew _ = w4
          have h2 : TG 34 w w4 b r (targetP b r) := by rw [← hw4, HTG.out]; exact ((HT.out.set 3 _ (q := { r with sc := b.sc, au := b.au, ha := b.ha, pa := b.pa, qu := b.qu }) rfl).set 6 _ (q := { r with sc := b.sc, au := b.au, ha := b.ha, pa := b.pa, qu := b.qu, hq := b.hq }) rfl).drewN 1
          clear hw4
          have hrow := h2.rt
          have hres := h2.rz
          obtain ⟨hnew, hbn⟩ := h2.fin
          have HROW := Lib.hid hrow
          have HRES := Lib.hid hres
          have HNEW := Lib.hid hnew
          clear hrow hres hnew h2
          go_wp2_with (first
            | (refine wpList_load_row rfl 34 _ rfl (w.heap.size + 3) rfl _ _ _ _ HROW.out Try.underlying34 rfl HI8.out ?_)
            | (refine wpList_store_row rfl 34 _ _ rfl (w.heap.size + 2) _ rfl rfl _ _ HRES.out HI8.out rfl (Prts.one _) ?_))
          exact bodyPost_ret (results_cell_row rfl _ _ (w.heap.size + 2) _ _ _ _ rfl HNEW.out Try.underlying34 rfl HI8.out) rfl ⟨rfl, hbn⟩
      | false =>
        obtain ⟨c, q, hc⟩ : ∃ c q, r.pa = c :: q := by
          cases hp : r.pa with
          | nil => simp [hp] at e2
          | cons c q => exact ⟨c, q, rfl⟩
        have htg : targetP b r = { r with sc := b.sc, au := b.au, ha := b.ha, pa := tgPath b r } := by unfold targetP; rw [if_neg (by simp [e0]), if_neg (by simp [e1]), if_neg (by simp [e2])]
        have HTG := Lib.hid htg
        clear htg
        obtain ⟨bp, hbp⟩ : ∃ bp : ByteArray, bp = ⟨r.pa.toArray⟩ := ⟨_, rfl⟩
        have hp0 : 0 < bp.size := by rw [hbp, Lib.size_eq]; simp [hc]
        have hbc : bp[0] = c := byteAt0 (by rw [hbp]; exact hc) hp0
        have e4 : bp.toList.isEmpty = false := by rw [Lib.toList_data, hbp]; exact e2
        rw [← hbp] at cr2
        by_cases h47 : c = 47
        · have htp : tgPath b r = cl r.pa [] := by unfold tgPath; rw [if_pos (by rw [hc, h47]; rfl)]
          have HTP := Lib.hid htp
          have hb47 : ((bp[0].toNat : Int) == 47) = true := by rw [hbc, h47]; rfl
          have hcl2 : ∀ w, Calls Try.prog 14 #[.string bp] w fun e w' => e = .returned (.string ⟨(cl r.pa []).toArray⟩) ∧ Below w.heap.size w w' := fun w => by rw [hbp]; exact HCL.out w
          have HCL2 := Lib.hid hcl2
          have HBP := Lib.hid hbp
          clear htp hbp hcl2 hc h47 hbc
          go_upto_region 17 with (go_at_call 14; refine (HCL2.out _).mono ?_; rintro e w1 ⟨rfl, hb1⟩; (have ht1 := HT.out.later hb1); (have k1 := (row8' ht1.rt).2.2.1); (have k0 := (row8' ht1.rt).1); (have cb0' := (row8' ht1.rb).1); (have f1 := fun i => frozen_of_row _ _ i _ _ ht1.rt); (have HT1 := Lib.hid ht1); clear hb1 ht1)
          generalize hw3 : World.setCell w1 _ _ = w3
          have h2 : TG 34 w w3 b r (targetP b r) := by rw [← hw3, HTG.out, HTP.out]; exact HT1.out.set 2 _ rfl
          clear hw3
          have hrow := h2.rt
          have hres := h2.rz
          obtain ⟨hnew, hbn⟩ := h2.fin
          have HROW := Lib.hid hrow
          have HRES := Lib.hid hres
          have HNEW := Lib.hid hnew
          clear hrow hres hnew h2
          go_wp2_with (first
            | (refine wpList_load_row rfl 34 _ rfl (w.heap.size + 3) rfl _ _ _ _ HROW.out Try.underlying34 rfl HI8.out ?_)
            | (refine wpList_store_row rfl 34 _ _ rfl (w.heap.size + 2) _ rfl rfl _ _ HRES.out HI8.out rfl (Prts.one _) ?_))
          exact bodyPost_ret (results_cell_row rfl _ _ (w.heap.size + 2) _ _ _ _ rfl HNEW.out Try.underlying34 rfl HI8.out) rfl ⟨rfl, hbn⟩
        · have htp : tgPath b r = cl (abv b ++ r.pa) [] := by unfold tgPath; rw [if_neg (by rw [hc]; simpa using h47)]
          have HTP := Lib.hid htp
          have hb47 : ((bp[0].toNat : Int) == 47) = false := by
            rw [hbc, beq_eq_false_iff_ne]; intro h; exact h47 (UInt8.toNat.inj (by simpa using (by omega : c.toNat = 47)))
          have HBP := Lib.hid hbp
          have hcl3 : ∀ w, Calls Try.prog 14 #[.string ⟨(abv b ++ r.pa).toArray⟩] w fun e w' => e = .returned (.string ⟨(tgPath b r).toArray⟩) ∧ Below w.heap.size w w' := fun w => by
            have hal := abv_len b
            have := clean_calls ⟨(abv b ++ r.pa).toArray⟩ w (by rw [Lib.size_eq]; simp; unfold Prts.sum at hb hr; omega)
            rw [htp]
            exact this
          have hb1 : ((abv b).length : Int) ≤ 8388608 := by have := abv_len b; unfold Prts.sum at hb; omega
          have hb2 : (r.pa.length : Int) ≤ 8388608 := by unfold Prts.sum at hr; omega
          have HCL3 := Lib.hid hcl3
          have HB1 := Lib.hid hb1
          have HB2 := Lib.hid hb2
          clear htp hbp hc h47 hbc hcl3 hb1 hb2
          go_upto_region 10 with fail
          refine wp_region_quiet_tail (fun w' => TG 34 w w' b r { r with sc := b.sc, au := b.au, ha := b.ha }) 7 (by kernel_rfl) (by kernel_rfl) (HT.out.drewN 1) ?_
          simp only [List.take_succ_cons, List.take_zero, List.drop_succ_cons, List.drop_zero]
          refine wq_row rfl 34 _ rfl w.heap.size rfl _ b.cells _ _ (fun w' h => h.rb) Try.underlying34 rfl HI8.out ?_
          refine wq_call (.string ⟨(abv b).toArray⟩) _ _ rfl (fun w' => by simp [go_sem]; rfl) (fun w' h => (above_calls b.sc b.au b.pa b.qu b.fr b.ha b.hq b.hf w' (by unfold Prts.sum at hb; omega)).mono fun _ _ ⟨h1, h2⟩ => ⟨h1, h.later h2⟩) ?_
          refine wq_val (.pointer (some ⟨w.heap.size + 1, 2, none⟩)) rfl (fun w' _ => by simp [go_sem]) ?_
          refine wq_val (.string ⟨r.pa.toArray⟩) rfl (fun w' h => by have := (row8' h.rr).2.2.1; simp [go_sem, this]) ?_
          refine wq_val (.string ⟨(abv b ++ r.pa).toArray⟩) rfl (fun w' h => by
            have := run_string_add_lists (P := Try.prog) w' (abv b) r.pa HB1.out HB2.out
            simp [go_sem, this]) ?_
          refine wq_call (.string ⟨(tgPath b r).toArray⟩) _ _ rfl (fun w' => by simp [go_sem]) (fun w' h => (HCL3.out w').mono fun _ _ ⟨h1, h2⟩ => ⟨h1, h.later h2⟩) ?_
          refine wq_val (.pointer (some ⟨w.heap.size + 3, 2, none⟩)) rfl (fun w' _ => by simp [go_sem]) ?_
          refine wpQuiet_nil ?_
          intro w3 h3
          have k3 := (row8' h3.rt).2.2.1
          have f3 := frozen_of_row _ _ 2 _ _ h3.rt
          have H3 := Lib.hid h3
          clear h3
          go_upto_region 17 with fail
          generalize hw3 : World.setCell w3 _ _ = w4
          have h2 : TG 34 w w4 b r (targetP b r) := by rw [← hw3, HTG.out]; exact H3.out.set 2 _ rfl
          clear hw3
          have hrow := h2.rt
          have hres := h2.rz
          obtain ⟨hnew, hbn⟩ := h2.fin
          have HROW := Lib.hid hrow
          have HRES := Lib.hid hres
          have HNEW := Lib.hid hnew
          clear hrow hres hnew h2
          go_wp2_with (first
            | (refine wpList_load_row rfl 34 _ rfl (w.heap.size + 3) rfl _ _ _ _ HROW.out Try.underlying34 rfl HI8.out ?_)
            | (refine wpList_store_row rfl 34 _ _ rfl (w.heap.size + 2) _ rfl rfl _ _ HRES.out HI8.out rfl (Prts.one _) ?_))
          exact bodyPost_ret (results_cell_row rfl _ _ (w.heap.size + 2) _ _ _ _ rfl HNEW.out Try.underlying34 rfl HI8.out) rfl ⟨rfl, hbn⟩
end Go.Proofs.Ythdkhlkmcebfeaa
