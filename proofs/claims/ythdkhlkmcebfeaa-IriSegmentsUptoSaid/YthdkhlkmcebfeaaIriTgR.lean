/- The document's target: the parts of what a reference means at a base. -/
import Derived.Test.YthdkhlkmcebfeaaIriTg
set_option linter.unusedVariables false
set_option linter.unusedSimpArgs false
namespace Go.Proofs.Ythdkhlkmcebfeaa
open Go.RowKit Go.Tk
set_option maxHeartbeats 4000000 in
set_option maxRecDepth 100000 in
theorem rtarget_calls (b r : Prts) (w : World) (hb : b.sum ≤ 1000000) (hr : r.sum ≤ 1000000) :
    Calls Try.prog 53 #[.agg #[.string ⟨b.sc.toArray⟩, .string ⟨b.au.toArray⟩, .string ⟨b.pa.toArray⟩, .string ⟨b.qu.toArray⟩, .string ⟨b.fr.toArray⟩, .bool b.ha, .bool b.hq, .bool b.hf], .agg #[.string ⟨r.sc.toArray⟩, .string ⟨r.au.toArray⟩, .string ⟨r.pa.toArray⟩, .string ⟨r.qu.toArray⟩, .string ⟨r.fr.toArray⟩, .bool r.ha, .bool r.hq, .bool r.hf]] w fun e w' => e = .returned (targetP b r).val ∧ Below w.heap.size w w' := by
  have hst := TG.start 34 w b r
  have hi8 : (Try.prog.info? 34).map (·.size) = some 8 := by kernel_rfl
  have ha1 : (((w.alloc (.cells b.cells 34)).alloc (.cells r.cells 34)).alloc (.cells P0.cells 34)).heap[w.heap.size + 1]? = some (.cells r.cells 34 (0, 0)) := by
    have h1 := heap_alloc_new (w.alloc (.cells b.cells 34)) (.cells r.cells 34)
    simp only [size_alloc1] at h1
    exact (Below.heap_alloc _ _ _ (lt_of_block h1)).trans h1
  have ha3 : ((((w.alloc (.cells b.cells 34)).alloc (.cells r.cells 34)).alloc (.cells P0.cells 34)).alloc (.cells P0.cells 34)).heap[w.heap.size + 3]? = some (.cells P0.cells 34 (0, 0)) := by
    have h3 := heap_alloc_new (((w.alloc (.cells b.cells 34)).alloc (.cells r.cells 34)).alloc (.cells P0.cells 34)) (.cells P0.cells 34)
    simp only [size_alloc1] at h3
    exact h3
  have HST := Lib.hid hst
  have HI8 := Lib.hid hi8
  have HA1 := Lib.hid ha1
  have HA3 := Lib.hid ha3
  clear hst hi8 ha1 ha3
  go_enter Try.func53, Try.ntmps53
  go_upto_region 2 with (first
    | (refine wpList_load_row rfl 34 _ rfl (w.heap.size + 1) rfl _ _ _ _ HA1.out Try.underlying34 rfl HI8.out ?_)
    | (refine wpList_store_row rfl 34 _ _ rfl (w.heap.size + 3) _ rfl rfl _ _ HA3.out HI8.out rfl (Prts.one r) ?_))
  generalize hwx : World.setRow _ (w.heap.size + 3) r.cells = wx
  have ht : TG 34 w wx b r r := by rw [← hwx]; exact HST.out
  have HT := Lib.hid ht
  obtain ⟨cb0, cb1, cb2, cb3, cb4, cb5, cb6, cb7⟩ := row8' ht.rb
  obtain ⟨cr0, cr1, cr2, cr3, cr4, cr5, cr6, cr7⟩ := row8' ht.rr
  obtain ⟨ct0, ct1, ct2, ct3, ct4, ct5, ct6, ct7⟩ := row8' ht.rt
  have ft := fun i => frozen_of_row _ _ i _ _ ht.rt
  clear hwx ht HST HA1 HA3
  have hcl := rclean_calls ⟨r.pa.toArray⟩ (hs := by rw [Lib.size_eq]; simp; unfold Prts.sum at hr; omega)
  have HCL := Lib.hid hcl
  clear hcl
  cases e0 : r.sc.isEmpty with
  | false =>
    have htg : targetP b r = { r with pa := cl r.pa [] } := by unfold targetP; rw [if_pos e0]
    have HTG := Lib.hid htg
    clear htg
    go_upto_region 6 with (go_at_call 15; refine (HCL.out _).mono ?_; rintro e w1 ⟨rfl, hb1⟩; (have ht1 := HT.out.later hb1); (have k1 := (row8' ht1.rt).2.2.1); (have k0 := (row8' ht1.rt).1); (have cb0' := (row8' ht1.rb).1); (have cr0' := (row8' ht1.rr).1); (have f1 := fun i => frozen_of_row _ _ i _ _ ht1.rt); (have HT1 := Lib.hid ht1); clear hb1 ht1)
    generalize hw2 : World.setCell w1 _ _ = w2
    have h2 : TG 34 w w2 b r (targetP b r) := by rw [← hw2, HTG.out]; exact HT1.out.set 2 _ rfl
    clear hw2
    have hrow := h2.rt
    have hres := h2.rz
    obtain ⟨hnew, hbn⟩ := h2.fin
    have HROW := Lib.hid hrow
    have HRES := Lib.hid hres
    have HNEW := Lib.hid hnew
    clear hrow hres hnew h2
    go_wp2_with (first
      | (refine wpList_load_row rfl 34 _ rfl (w.heap.size + 3) rfl _ _ _ _ HROW.out Try.underlying34 rfl HI8.out ?_)
      | (refine wpList_store_row rfl 34 _ _ rfl (w.heap.size + 2) _ rfl rfl _ _ HRES.out HI8.out rfl (Prts.one _) ?_))
    exact bodyPost_ret (results_cell_row rfl _ _ (w.heap.size + 2) _ _ _ _ rfl HNEW.out Try.underlying34 rfl HI8.out) rfl ⟨rfl, hbn⟩
  | true =>
    cases e1 : r.ha with
    | true =>
      have htg : targetP b r = { r with pa := cl r.pa [], sc := b.sc } := by unfold targetP; rw [if_neg (by simp [e0]), if_pos e1]
      have HTG := Lib.hid htg
      clear htg
      go_upto_region 6 with (go_at_call 15; refine (HCL.out _).mono ?_; rintro e w1 ⟨rfl, hb1⟩; (have ht1 := HT.out.later hb1); (have k1 := (row8' ht1.rt).2.2.1); (have k0 := (row8' ht1.rt).1); (have cb0' := (row8' ht1.rb).1); (have cr0' := (row8' ht1.rr).1); (have f1 := fun i => frozen_of_row _ _ i _ _ ht1.rt); (have HT1 := Lib.hid ht1); clear hb1 ht1)
      generalize hw2 : World.setCell (World.setCell w1 _ _) _ _ = w2
      have h2 : TG 34 w w2 b r (targetP b r) := by rw [← hw2, HTG.out]; exact (HT1.out.set 2 _ (q := { r with pa := cl r.pa [] }) rfl).set 0 _ rfl
      clear hw2
      have hrow := h2.rt
      have hres := h2.rz
      obtain ⟨hnew, hbn⟩ := h2.fin
      have HROW := Lib.hid hrow
      have HRES := Lib.hid hres
      have HNEW := Lib.hid hnew
      clear hrow hres hnew h2
      go_wp2_with (first
        | (refine wpList_load_row rfl 34 _ rfl (w.heap.size + 3) rfl _ _ _ _ HROW.out Try.underlying34 rfl HI8.out ?_)
        | (refine wpList_store_row rfl 34 _ _ rfl (w.heap.size + 2) _ rfl rfl _ _ HRES.out HI8.out rfl (Prts.one _) ?_))
      exact bodyPost_ret (results_cell_row rfl _ _ (w.heap.size + 2) _ _ _ _ rfl HNEW.out Try.underlying34 rfl HI8.out) rfl ⟨rfl, hbn⟩
    | false =>
      go_upto_region 10 with fail
      generalize hw2 : World.setCell (World.setCell (World.setCell wx _ _) _ _) _ _ = w2
      have ht2 : TG 34 w w2 b r { r with sc := b.sc, au := b.au, ha := b.ha } := by rw [← hw2]; exact ((HT.out.set 0 _ (q := { r with sc := b.sc }) rfl).set 5 _ (q := { r with sc := b.sc, ha := b.ha }) rfl).set 1 _ (q := { r with sc := b.sc, au := b.au, ha := b.ha }) rfl
      clear hw2
      clear cb0 cb1 cb2 cb3 cb4 cb5 cb6 cb7 cr0 cr1 cr2 cr3 cr4 cr5 cr6 cr7 ct0 ct1 ct2 ct3 ct4 ct5 ct6 ct7 ft HT
      obtain ⟨cb0, cb1, cb2, cb3, cb4, cb5, cb6, cb7⟩ := row8' ht2.rb
      obtain ⟨cr0, cr1, cr2, cr3, cr4, cr5, cr6, cr7⟩ := row8' ht2.rr
      obtain ⟨ct0, ct1, ct2, ct3, ct4, ct5, ct6, ct7⟩ := row8' ht2.rt
      have ft := fun i => frozen_of_row _ _ i _ _ ht2.rt
      have HT := Lib.hid ht2
      clear ht2
      cases e2 : r.pa.isEmpty with
      | true =>
        cases e3 : r.hq with
        | true =>
          have htg : targetP b r = { r with sc := b.sc, au := b.au, ha := b.ha, pa := b.pa } := by unfold targetP; rw [if_neg (by simp [e0]), if_neg (by simp [e1]), if_pos e2, if_pos e3]
          have HTG := Lib.hid htg
          clear htg
          go_upto_region 15 with fail
          generalize hw3 : World.setCell w2 _ _ = w3
          have h2 : TG 34 w w3 b r (targetP b r) := by rw [← hw3, HTG.out]; exact HT.out.set 2 _ rfl
          clear hw3
          have hrow := h2.rt
          have hres := h2.rz
          obtain ⟨hnew, hbn⟩ := h2.fin
          have HROW := Lib.hid hrow
          have HRES := Lib.hid hres
          have HNEW := Lib.hid hnew
          clear hrow hres hnew h2
          go_wp2_with (first
            | (refine wpList_load_row rfl 34 _ rfl (w.heap.size + 3) rfl _ _ _ _ HROW.out Try.underlying34 rfl HI8.out ?_)
            | (refine wpList_store_row rfl 34 _ _ rfl (w.heap.size + 2) _ rfl rfl _ _ HRES.out HI8.out rfl (Prts.one _) ?_))
          exact bodyPost_ret (results_cell_row rfl _ _ (w.heap.size + 2) _ _ _ _ rfl HNEW.out Try.underlying34 rfl HI8.out) rfl ⟨rfl, hbn⟩
        | false =>
          have htg : targetP b r = { r with sc := b.sc, au := b.au, ha := b.ha, pa := b.pa, qu := b.qu, hq := b.hq } := by unfold targetP; rw [if_neg (by simp [e0]), if_neg (by simp [e1]), if_pos e2, if_neg (by simp [e3])]
          have HTG := Lib.hid htg
          clear htg
          go_upto_region 15 with fail
          generalize hw3 : World.setCell (World.setCell (World.setCell w2 _ _) _ _) _ _ = w3
          have h2 : TG 34 w w3 b r (targetP b r) := by rw [← hw3, HTG.out]; exact ((HT.out.set 2 _ (q := { r with sc := b.sc, au := b.au, ha := b.ha, pa := b.pa }) rfl).set 6 _ (q := { r with sc := b.sc, au := b.au, ha := b.ha, pa := b.pa, hq := b.hq }) rfl).set 3 _ rfl
          clear hw3
          have hrow := h2.rt
          have hres := h2.rz
          obtain ⟨hnew, hbn⟩ := h2.fin
          have HROW := Lib.hid hrow
          have HRES := Lib.hid hres
          have HNEW := Lib.hid hnew
          clear hrow hres hnew h2
          go_wp2_with (first
            | (refine wpList_load_row rfl 34 _ rfl (w.heap.size + 3) rfl _ _ _ _ HROW.out Try.underlying34 rfl HI8.out ?_)
            | (refine wpList_store_row rfl 34 _ _ rfl (w.heap.size + 2) _ rfl rfl _ _ HRES.out HI8.out rfl (Prts.one _) ?_))
          exact bodyPost_ret (results_cell_row rfl _ _ (w.heap.size + 2) _ _ _ _ rfl HNEW.out Try.underlying34 rfl HI8.out) rfl ⟨rfl, hbn⟩
      | false =>
        obtain ⟨c, q, hc⟩ : ∃ c q, r.pa = c :: q := by
          cases hp : r.pa with
          | nil => simp [hp] at e2
          | cons c q => exact ⟨c, q, rfl⟩
        have htg : targetP b r = { r with sc := b.sc, au := b.au, ha := b.ha, pa := tgPath b r } := by unfold targetP; rw [if_neg (by simp [e0]), if_neg (by simp [e1]), if_neg (by simp [e2])]
        have HTG := Lib.hid htg
        clear htg
        obtain ⟨bp, hbp⟩ : ∃ bp : ByteArray, bp = ⟨r.pa.toArray⟩ := ⟨_, rfl⟩
        have hp0 : 0 < bp.size := by rw [hbp, Lib.size_eq]; simp [hc]
        have hbc : bp[0] = c := byteAt0 (by rw [hbp]; exact hc) hp0
        have e4 : bp.toList.isEmpty = false := by rw [Lib.toList_data, hbp]; exact e2
        rw [← hbp] at cr2
        by_cases h47 : c = 47
        · have htp : tgPath b r = cl r.pa [] := by unfold tgPath; rw [if_pos (by rw [hc, h47]; rfl)]
          have HTP := Lib.hid htp
          have hb47 : ((bp[0].toNat : Int) == 47) = true := by rw [hbc, h47]; rfl
          have hcl2 : ∀ w, Calls Try.prog 15 #[.string bp] w fun e w' => e = .returned (.string ⟨(cl r.pa []).toArray⟩) ∧ Below w.heap.size w w' := fun w => by rw [hbp]; exact HCL.out w
          have HCL2 := Lib.hid hcl2
          have HBP := Lib.hid hbp
          clear htp hbp hcl2 hc h47 hbc
          go_upto_region 21 with (go_at_call 15; refine (HCL2.out _).mono ?_; rintro e w1 ⟨rfl, hb1⟩; (have ht1 := HT.out.later hb1); (have k1 := (row8' ht1.rt).2.2.1); (have k0 := (row8' ht1.rt).1); (have cb0' := (row8' ht1.rb).1); (have cr0' := (row8' ht1.rr).1); (have f1 := fun i => frozen_of_row _ _ i _ _ ht1.rt); (have HT1 := Lib.hid ht1); clear hb1 ht1)
          generalize hw3 : World.setCell w1 _ _ = w3
          have h2 : TG 34 w w3 b r (targetP b r) := by rw [← hw3, HTG.out, HTP.out]; exact HT1.out.set 2 _ rfl
          clear hw3
          have hrow := h2.rt
          have hres := h2.rz
          obtain ⟨hnew, hbn⟩ := h2.fin
          have HROW := Lib.hid hrow
          have HRES := Lib.hid hres
          have HNEW := Lib.hid hnew
          clear hrow hres hnew h2
          go_wp2_with (first
            | (refine wpList_load_row rfl 34 _ rfl (w.heap.size + 3) rfl _ _ _ _ HROW.out Try.underlying34 rfl HI8.out ?_)
            | (refine wpList_store_row rfl 34 _ _ rfl (w.heap.size + 2) _ rfl rfl _ _ HRES.out HI8.out rfl (Prts.one _) ?_))
          exact bodyPost_ret (results_cell_row rfl _ _ (w.heap.size + 2) _ _ _ _ rfl HNEW.out Try.underlying34 rfl HI8.out) rfl ⟨rfl, hbn⟩
        · have htp : tgPath b r = cl (abv b ++ r.pa) [] := by unfold tgPath; rw [if_neg (by rw [hc]; simpa using h47)]
          have HTP := Lib.hid htp
          have hb47 : ((bp[0].toNat : Int) == 47) = false := by
            rw [hbc, beq_eq_false_iff_ne]; intro h; exact h47 (UInt8.toNat.inj (by simpa using (by omega : c.toNat = 47)))
          have HBP := Lib.hid hbp
          have hcl3 : ∀ w, Calls Try.prog 15 #[.string ⟨(abv b ++ r.pa).toArray⟩] w fun e w' => e = .returned (.string ⟨(tgPath b r).toArray⟩) ∧ Below w.heap.size w w' := fun w => by
            have hal := abv_len b
            have := rclean_calls ⟨(abv b ++ r.pa).toArray⟩ w (by rw [Lib.size_eq]; simp; unfold Prts.sum at hb hr; omega)
            rw [htp]
            exact this
          have hb1 : ((abv b).length : Int) ≤ 8388608 := by have := abv_len b; unfold Prts.sum at hb; omega
          have hb2 : (r.pa.length : Int) ≤ 8388608 := by unfold Prts.sum at hr; omega
          have hb3 : b.pa.length ≤ 1000000 := by unfold Prts.sum at hb; omega
          have hb5 : r.pa.length ≤ 1000000 := by unfold Prts.sum at hr; omega
          have HCL3 := Lib.hid hcl3
          have HB1 := Lib.hid hb1
          have HB2 := Lib.hid hb2
          clear htp hc h47 hbc hcl3 hb1 hb2
          cases e5 : (b.ha && b.pa.isEmpty) with
          | true =>
            rw [Bool.and_eq_true] at e5
            obtain ⟨e6, e7⟩ := e5
            have hab : abv b = [47] := by unfold abv; rw [e6, e7]; rfl
            have hcl4 := HCL3.out
            rw [hab] at hcl4
            have hcl5 : ∀ w, Calls Try.prog 15 #[.string ((⟨#[47]⟩ : ByteArray) ++ bp)] w fun e w' => e = .returned (.string ⟨(tgPath b r).toArray⟩) ∧ Below w.heap.size w w' := fun w => by
              rw [hbp, show ((⟨#[47]⟩ : ByteArray) ++ ⟨r.pa.toArray⟩) = ⟨([47] ++ r.pa).toArray⟩ from ByteArray.mk_append_mk [47] r.pa]
              exact hcl4 w
            have HCL2 := Lib.hid hcl5
            have hbz : bp.size ≤ 1000000 := by rw [hbp, Lib.size_eq]; simpa using hb5
            clear hcl4 hcl5 hab hbp
            go_upto_region 21 with (go_at_call 15; refine (HCL2.out _).mono ?_; rintro e w1 ⟨rfl, hb1⟩; (have ht1 := HT.out.later hb1); (have k1 := (row8' ht1.rt).2.2.1); (have k0 := (row8' ht1.rt).1); (have cb0' := (row8' ht1.rb).1); (have cr0' := (row8' ht1.rr).1); (have f1 := fun i => frozen_of_row _ _ i _ _ ht1.rt); (have HT1 := Lib.hid ht1); clear hb1 ht1)
            generalize hw3 : World.setCell w1 _ _ = w3
            have h2 : TG 34 w w3 b r (targetP b r) := by rw [← hw3, HTG.out]; exact HT1.out.set 2 _ rfl
            clear hw3
            have hrow := h2.rt
            have hres := h2.rz
            obtain ⟨hnew, hbn⟩ := h2.fin
            have HROW := Lib.hid hrow
            have HRES := Lib.hid hres
            have HNEW := Lib.hid hnew
            clear hrow hres hnew h2
            go_wp2_with (first
              | (refine wpList_load_row rfl 34 _ rfl (w.heap.size + 3) rfl _ _ _ _ HROW.out Try.underlying34 rfl HI8.out ?_)
              | (refine wpList_store_row rfl 34 _ _ rfl (w.heap.size + 2) _ rfl rfl _ _ HRES.out HI8.out rfl (Prts.one _) ?_))
            exact bodyPost_ret (results_cell_row rfl _ _ (w.heap.size + 2) _ _ _ _ rfl HNEW.out Try.underlying34 rfl HI8.out) rfl ⟨rfl, hbn⟩
          | false =>
            have hab : abv b = b.pa.take (lastS 47 b.pa) := by unfold abv; rw [e5]; rfl
            have hll := lastS_le 47 b.pa
            have HAB := Lib.hid hab
            have hor : b.ha = false ∨ (b.ha = true ∧ b.pa.isEmpty = false) := by
              cases hx : b.ha with
              | false => exact .inl rfl
              | true => right; rw [hx] at e5; exact ⟨rfl, by simpa using e5⟩
            clear hbp hab e5
            rcases hor with e6 | ⟨e6, e7⟩
            all_goals
              go_upto_region 16 with fail
              refine wp_region_quiet_tail (fun w' => TG 34 w w' b r { r with sc := b.sc, au := b.au, ha := b.ha }) 11 (by kernel_rfl) (by kernel_rfl) (HT.out.drewN 1) ?_
              simp only [List.take_succ_cons, List.take_zero, List.drop_succ_cons, List.drop_zero]
              refine wq_val (.pointer (some ⟨w.heap.size, 2, none⟩)) rfl (fun w' _ => by simp [go_sem]) ?_
              refine wq_val (.string ⟨b.pa.toArray⟩) rfl (fun w' h => by have := (row8' h.rb).2.2.1; simp [go_sem, this]) ?_
              refine wq_val (.pointer (some ⟨w.heap.size, 2, none⟩)) rfl (fun w' _ => by simp [go_sem]) ?_
              refine wq_val (.string ⟨b.pa.toArray⟩) rfl (fun w' h => by have := (row8' h.rb).2.2.1; simp [go_sem, this]) ?_
              refine wq_call (.int .i64 (lastS 47 b.pa : Nat)) _ _ rfl (fun w' => by simp [go_sem]) (fun w' h => (rlast_calls ⟨b.pa.toArray⟩ w' (by rw [Lib.size_eq]; simp; omega)).mono fun _ _ ⟨h1, h2⟩ => ⟨h1, h2 ▸ h⟩) ?_
              refine wq_val (.string ⟨(abv b).toArray⟩) rfl (fun w' h => by
                have z : (⟨b.pa.toArray⟩ : ByteArray).size = b.pa.length := by rw [Lib.size_eq]
                have := extract_take ⟨b.pa.toArray⟩ (lastS 47 b.pa)
                rw [HAB.out]
                simp [go_sem, z, hll, this]
                done) ?_
              refine wq_val (.pointer (some ⟨w.heap.size + 1, 2, none⟩)) rfl (fun w' _ => by simp [go_sem]) ?_
              refine wq_val (.string ⟨r.pa.toArray⟩) rfl (fun w' h => by have := (row8' h.rr).2.2.1; simp [go_sem, this]) ?_
              refine wq_val (.string ⟨(abv b ++ r.pa).toArray⟩) rfl (fun w' h => by
                have := run_string_add_lists (P := Try.prog) w' (abv b) r.pa HB1.out HB2.out
                simp [go_sem, this]) ?_
              refine wq_call (.string ⟨(tgPath b r).toArray⟩) _ _ rfl (fun w' => by simp [go_sem]) (fun w' h => (HCL3.out w').mono fun _ _ ⟨h1, h2⟩ => ⟨h1, h.later h2⟩) ?_
              refine wq_val (.pointer (some ⟨w.heap.size + 3, 2, none⟩)) rfl (fun w' _ => by simp [go_sem]) ?_
              refine wpQuiet_nil ?_
              intro w3 h3
              have k3 := (row8' h3.rt).2.2.1
              have f3 := frozen_of_row _ _ 2 _ _ h3.rt
              have H3 := Lib.hid h3
              clear h3
              go_upto_region 21 with fail
              generalize hw3 : World.setCell w3 _ _ = w4
              have h2 : TG 34 w w4 b r (targetP b r) := by rw [← hw3, HTG.out]; exact H3.out.set 2 _ rfl
              clear hw3
              have hrow := h2.rt
              have hres := h2.rz
              obtain ⟨hnew, hbn⟩ := h2.fin
              have HROW := Lib.hid hrow
              have HRES := Lib.hid hres
              have HNEW := Lib.hid hnew
              clear hrow hres hnew h2
              go_wp2_with (first
                | (refine wpList_load_row rfl 34 _ rfl (w.heap.size + 3) rfl _ _ _ _ HROW.out Try.underlying34 rfl HI8.out ?_)
                | (refine wpList_store_row rfl 34 _ _ rfl (w.heap.size + 2) _ rfl rfl _ _ HRES.out HI8.out rfl (Prts.one _) ?_))
              exact bodyPost_ret (results_cell_row rfl _ _ (w.heap.size + 2) _ _ _ _ rfl HNEW.out Try.underlying34 rfl HI8.out) rfl ⟨rfl, hbn⟩
end Go.Proofs.Ythdkhlkmcebfeaa
