/- IriResolved: what a reference means is an IRI, and means itself at any base. -/
import Derived.Test.YthdkhlkmcebfeaaIriTq
import Derived.Test.YthdkhlkmcebfeaaIriTC
import Derived.Test.YthdkhlkmcebfeaaIriSplits
import Derived.Test.YthdkhlkmcebfeaaIriTB
set_option linter.unusedVariables false
set_option linter.unusedSimpArgs false
namespace Go.Tk
open Go Go.RowKit
theorem resE_bad {b r : List UInt8} (h : irE b ≠ 0) : resE b r = ([], irE b) := by unfold resE; rw [if_pos h]
theorem resE_no {b r : List UInt8} (hb : irE b = 0) (h : (resE b r).2 ≠ 0) : (resE b r).1 = [] ∧ ((resE b r).2 = refE r ∧ refE r ≠ 0 ∨ (resE b r).2 = 2 ∧ refE r = 0) := by
  unfold resE at h ⊢
  rw [if_neg (by simp [hb])] at h ⊢
  by_cases hr : refE r = 0
  · rw [if_neg (by simp [hr])] at h ⊢
    by_cases hl : 65536 < (targetP (splitP b) (splitP r)).text.length
    · rw [if_pos hl]; exact ⟨rfl, .inr ⟨rfl, hr⟩⟩
    · rw [if_neg hl] at h; exact absurd rfl h
  · rw [if_pos hr]; exact ⟨rfl, .inl ⟨rfl, hr⟩⟩
theorem resE_ref {b r : List UInt8} (hb : irE b = 0) (h : (resE b r).2 = 0) : refE r = 0 := by
  unfold resE at h
  rw [if_neg (by simp [hb])] at h
  by_cases hr : refE r = 0
  · exact hr
  · rw [if_pos hr] at h; exact absurd h hr
end Go.Tk
namespace Go.Proofs.Ythdkhlkmcebfeaa
open Go.RowKit Go.Tk
/-- Split, where there is no error. -/
theorem split_ok (s : ByteArray) (w : World) (hs : s.size ≤ 9223372036854770000) (h : refE s.data.toList = 0) : Calls Try.prog 22 #[.string s] w fun e w' => e = .returned (.tuple #[.agg (splitP s.data.toList).cells, .int .i64 0]) ∧ Below w.heap.size w w' := by
  have := split2_calls s w hs
  rw [if_pos h, h] at this
  exact this
theorem parts_part (p : Prts) : p.cells.size = 8 := rfl
set_option maxHeartbeats 4000000 in
set_option maxRecDepth 100000 in
theorem iriresolved_go (w : World) (s : ByteArray) (hs : s.size ≤ 140737488351232) (r : ByteArray) (hr : r.size ≤ 140737488351232) (o : ByteArray) (ho : o.size ≤ 140737488351232) :
    Calls Try.prog 13 #[.string s, .string r, .string o] w fun e w' => e = .returned (.bool true) ∧ Below w.heap.size w w' := by
  have hck := fun w => icheck_calls s w (by omega)
  have hok := fun w => icheck_calls o w (by omega)
  have hrf := fun w => reference_calls r w (by omega)
  have hrs := fun w => resolve_calls s r w (by omega) (by omega)
  have hi8 : (Try.prog.info? 34).map (·.size) = some 8 := by kernel_rfl
  have HI8 := Lib.hid hi8
  have HOK := Lib.hid hok
  have HRF := Lib.hid hrf
  clear hi8 hok hrf
  obtain ⟨sl, hsl⟩ : ∃ sl, sl = s.data.toList := ⟨_, rfl⟩
  obtain ⟨rl, hrl⟩ : ∃ rl, rl = r.data.toList := ⟨_, rfl⟩
  by_cases h0 : irE sl = 0
  · have hE0 := h0
    obtain ⟨hb1, hb2⟩ := (irE_iff _).1 h0
    obtain ⟨l1, l2, l3, l4⟩ := own_laws h0
    have hsp := fun w => split_ok s w (by omega) (by rw [← hsl]; exact hb1)
    rw [← hsl] at hsp hck hrs
    rw [← hrl] at hrs
    have hse : sl.length ≤ 65536 := irE_size h0
    have hre : ∀ w, Calls Try.prog 26 #[.string s, .string ⟨#[]⟩] w fun e w' => e = .returned (.tuple #[.string ⟨(ownP sl).text.toArray⟩, .int .i64 0]) ∧ Below w.heap.size w w' := fun w => by
      have := resolve_calls s ⟨#[]⟩ w (by omega) (by decide)
      rw [← hsl, show (⟨#[]⟩ : ByteArray).data.toList = [] from rfl, l1] at this
      exact this
    have hsm := splitP_sum sl
    have hjn : ∀ w, Calls Try.prog 24 #[.agg (ownP sl).cells] w fun e w' => e = .returned (.tuple #[.string ⟨(ownP sl).text.toArray⟩, .int .i64 0]) ∧ Below w.heap.size w w' := fun w => by
      have := iJoin_calls (ownP sl).sc (ownP sl).au (ownP sl).pa (ownP sl).qu (ownP sl).fr (ownP sl).ha (ownP sl).hq (ownP sl).hf w (by
        show (splitP sl).sc.length + (splitP sl).au.length + (splitP sl).pa.length + (splitP sl).qu.length + 0 ≤ _
        unfold Prts.sum at hsm; omega)
      rw [show joinE ⟨(ownP sl).sc, (ownP sl).au, (ownP sl).pa, (ownP sl).qu, (ownP sl).fr, (ownP sl).ha, (ownP sl).hq, (ownP sl).hf⟩ = ((ownP sl).text, 0) from l2] at this
      exact this
    obtain ⟨xB, hxB⟩ : ∃ xB : ByteArray, xB = ⟨(ownP sl).text.toArray⟩ := ⟨_, rfl⟩
    rw [← hxB] at hre hjn
    obtain ⟨p, hp⟩ : ∃ p, p = splitP sl := ⟨_, rfl⟩
    have hop : ownP sl = { p with hf := false, fr := [] } := by rw [hp]; rfl
    rw [← hp] at hsp
    rw [hop] at hjn
    have hpz : p.pa.length ≤ 1000000 := by rw [hp]; unfold Prts.sum at hsm; omega
    rw [hE0] at hck
    have exx : (xB.toList != xB.toList) = false := by simp
    have no := resE_no (b := sl) (r := rl) h0
    have yes := fun h => resolved (base := sl) (ref := rl) h0 (resE_ref h0 h) h
    have href := resE_ref (b := sl) (r := rl) h0
    have hdb := fun w => dots_calls ⟨p.pa.toArray⟩ w (by rw [Lib.size_eq]; show p.pa.length ≤ _; omega)
    rw [show (⟨p.pa.toArray⟩ : ByteArray).data.toList = p.pa from rfl] at hdb
    rw [← hp] at yes
    obtain ⟨x, hx⟩ : ∃ x, x = resE sl rl := ⟨_, rfl⟩
    rw [← hx] at hrs no yes href
    obtain ⟨x1, x2⟩ := x
    simp only at hrs no yes href
    obtain ⟨sB, hsB⟩ : ∃ sB : ByteArray, sB = ⟨x1.toArray⟩ := ⟨_, rfl⟩
    rw [← hsB] at hrs
    have HSP := Lib.hid hsp
    have HCK := Lib.hid hck
    have HRS := Lib.hid hrs
    have HRE := Lib.hid hre
    have HJN := Lib.hid hjn
    have HNO := Lib.hid no
    have HYES := Lib.hid yes
    have HREF := Lib.hid href
    have HDB := Lib.hid hdb
    have HSB := Lib.hid hsB
    have HRL := Lib.hid hrl
    clear hsp hck hrs hre hjn no yes href hdb hsB hrl hsl hE0 hb1 hb2 l1 l2 l3 l4 hsm hxB hp hop hx h0 hse
    go_enter Try.func13, Try.ntmps13
    go_wp2_with fail
    refine (awake_calls _).mono ?_
    rintro e w1 ⟨rfl, hb1⟩
    have B1 := Lib.hid hb1
    clear hb1
    go_wp2_with fail
    refine (HSP.out _).mono ?_
    rintro e w2 ⟨rfl, hb2⟩
    have B2 := Lib.hid (B1.out.trans (hb2.mono B1.out.size))
    have hs2 := B2.out.size
    obtain ⟨hn3, hb3⟩ := alloc_row w2 P0.cells p.cells 34
    have ha2 := heap_alloc_new w2 (.cells P0.cells 34)
    have HN3 := Lib.hid hn3
    have HB3 := Lib.hid hb3
    have HA2 := Lib.hid ha2
    clear hb2 hn3 hb3 ha2
    go_upto_region 4 with (refine wpList_store_row rfl 34 _ _ rfl w2.heap.size p.cells rfl rfl _ _ HA2.out HI8.out rfl (Prts.one p) ?_)
    generalize hw3 : World.setRow _ w2.heap.size p.cells = w3
    have r7 : w3.heap[w2.heap.size]? = some (.cells p.cells 34 (0, 0)) := by rw [← hw3]; exact HN3.out
    have b3 : Below w.heap.size w w3 := B2.out.trans ((show Below w2.heap.size w2 w3 by rw [← hw3]; exact HB3.out).mono hs2)
    have R3 := Lib.hid r7
    have B3 := Lib.hid b3
    have hl3 := lt_of_block r7
    clear hw3 r7 b3 HN3 HB3 HA2
    go_wp2_with fail
    refine (HCK.out _).mono ?_
    rintro e w4 ⟨rfl, hb4⟩
    have R4 := Lib.hid ((hb4.block _ hl3).trans R3.out)
    have B4 := Lib.hid (B3.out.trans (hb4.mono B3.out.size))
    have hl4 := lt_of_block R4.out
    clear hb4
    go_wp2_with fail
    refine (HRS.out _).mono ?_
    rintro e w5 ⟨rfl, hb5⟩
    have R5 := Lib.hid ((hb5.block _ hl4).trans R4.out)
    have B5 := Lib.hid (B4.out.trans (hb5.mono B4.out.size))
    have hl5 := lt_of_block R5.out
    clear hb5
    go_wp2_with fail
    refine (HRE.out _).mono ?_
    rintro e w6 ⟨rfl, hb6⟩
    have r6 := (hb6.block _ hl5).trans R5.out
    have B6 := Lib.hid (B5.out.trans (hb6.mono B5.out.size))
    obtain ⟨k0, k1, k2, k3, k4, k5, k6, k7⟩ := row8' r6
    have kf := fun i => frozen_of_row _ _ i _ _ r6
    have hr7 : ((w6.setCell ⟨w2.heap.size, 7, none⟩ (.bool false)).setCell ⟨w2.heap.size, 4, none⟩ (.string ⟨#[]⟩)).heap[w2.heap.size]? = some (.cells ({ p with hf := false, fr := [] } : Prts).cells 34 (0, 0)) := by
      have h1 := heap_setCell_same w6 w2.heap.size 7 _ _ (.bool false) r6
      exact heap_setCell_same _ w2.heap.size 4 _ _ (.string ⟨#[]⟩) h1
    have hb7 : Below w.heap.size w ((w6.setCell ⟨w2.heap.size, 7, none⟩ (.bool false)).setCell ⟨w2.heap.size, 4, none⟩ (.string ⟨#[]⟩)) := (B6.out.setCell (p := ⟨w2.heap.size, 7, none⟩) hs2 _).setCell (p := ⟨w2.heap.size, 4, none⟩) hs2 _
    have HR7 := Lib.hid hr7
    have HB7 := Lib.hid hb7
    clear hb6 r6 hr7 hb7
    go_upto_region 10 with fail
    generalize hw7 : World.setCell _ _ _ = w7
    have R7 := Lib.hid (show w7.heap[w2.heap.size]? = some (.cells ({ p with hf := false, fr := [] } : Prts).cells 34 (0, 0)) by rw [← hw7]; exact HR7.out)
    have B7 := Lib.hid (show Below w.heap.size w w7 by rw [← hw7]; exact HB7.out)
    have hl7 := lt_of_block R7.out
    clear hw7 HR7 HB7 k0 k1 k2 k3 k4 k5 k6 k7 kf
    go_upto_region 11 with (first
      | (refine wpList_load_row rfl 34 _ rfl w2.heap.size rfl _ ({ p with hf := false, fr := [] } : Prts).cells _ _ R7.out Try.underlying34 rfl HI8.out ?_)
      | (go_at_call 24; refine (HJN.out _).mono ?_; rintro e w8 ⟨rfl, hb8⟩; (have R8 := Lib.hid ((hb8.block _ hl7).trans R7.out)); (have B8 := Lib.hid (B7.out.trans (hb8.mono B7.out.size))); clear hb8))
    have hl8 := lt_of_block R8.out
    by_cases hx2 : x2 = 0
    · obtain ⟨y1, y2, y3, y4⟩ := HYES.out hx2
      have ex2 : (x2 != 0) = false := by simp [hx2]
      have hrf0 := HREF.out hx2
      obtain ⟨z1, z2⟩ := (irE_iff _).1 y2
      have hxl : x1.length ≤ 65536 := irE_size y2
      have hss := fun w => split_ok sB w (by rw [HSB.out, Lib.size_eq]; show x1.length ≤ _; omega) (by rw [HSB.out]; exact z1)
      rw [show sB.data.toList = x1 by rw [HSB.out]] at hss
      have hcs : ∀ w, Calls Try.prog 20 #[.string sB] w fun e w' => e = .returned (.int .i64 0) ∧ Below w.heap.size w w' := fun w => by
        have := icheck_calls sB w (by rw [HSB.out, Lib.size_eq]; show x1.length ≤ _; omega)
        rw [show sB.data.toList = x1 by rw [HSB.out], y2] at this
        exact this
      obtain ⟨q, hq⟩ : ∃ q, q = splitP x1 := ⟨_, rfl⟩
      rw [← hq] at y3 y4 hss
      have hqz : q.pa.length ≤ 1000000 := by have := splitP_sum x1; rw [← hq] at this; unfold Prts.sum at this; omega
      have hdq := fun w => dots_calls ⟨q.pa.toArray⟩ w (by rw [Lib.size_eq]; show q.pa.length ≤ _; omega)
      rw [show (⟨q.pa.toArray⟩ : ByteArray).data.toList = q.pa from rfl] at hdq
      obtain ⟨d, hd⟩ : ∃ d, d = dotsB q.pa := ⟨_, rfl⟩
      rw [← hd] at y3 y4 hdq
      have hsr := fun w => split_ok r w (by omega) (by rw [← HRL.out]; exact hrf0)
      rw [← HRL.out] at hsr
      obtain ⟨u, hu⟩ : ∃ u, u = splitP rl := ⟨_, rfl⟩
      rw [← hu] at y3 hsr
      have hol := fun w => resolve_calls o sB w (by omega) (by rw [HSB.out, Lib.size_eq]; show x1.length ≤ _; omega)
      rw [show sB.data.toList = x1 by rw [HSB.out]] at hol
      have HSS := Lib.hid hss
      have HCS := Lib.hid hcs
      have HDQ := Lib.hid hdq
      have HSR := Lib.hid hsr
      have HOL := Lib.hid hol
      have Y3 := Lib.hid y3
      have Y4 := Lib.hid y4
      clear y1 y2 y3 y4 hrf0 z1 z2 hxl hss hcs hq hdq hd hsr hu hol hx2
      go_wp2_with fail
      refine (HSS.out _).mono ?_
      rintro e w9 ⟨rfl, hb9⟩
      have R9 := Lib.hid ((hb9.block _ hl8).trans R8.out)
      have B9 := Lib.hid (B8.out.trans (hb9.mono B8.out.size))
      have hs9 := B9.out.size
      have hl9 := lt_of_block R9.out
      obtain ⟨hn10, hb10⟩ := alloc_row w9 P0.cells q.cells 34
      have ha9 := heap_alloc_new w9 (.cells P0.cells 34)
      have HN10 := Lib.hid hn10
      have HB10 := Lib.hid hb10
      have HA9 := Lib.hid ha9
      clear hb9 hn10 hb10 ha9
      go_upto_region 16 with (refine wpList_store_row rfl 34 _ _ rfl w9.heap.size q.cells rfl rfl _ _ HA9.out HI8.out rfl (Prts.one q) ?_)
      generalize hw10 : World.setRow _ w9.heap.size q.cells = w10
      have q10 : w10.heap[w9.heap.size]? = some (.cells q.cells 34 (0, 0)) := by rw [← hw10]; exact HN10.out
      have b10 : Below w9.heap.size w9 w10 := by rw [← hw10]; exact HB10.out
      have R10 := Lib.hid ((b10.block _ hl9).trans R9.out)
      have Q10 := Lib.hid q10
      have B10 := Lib.hid (B9.out.trans (b10.mono hs9))
      have hl10 := lt_of_block R10.out
      have hm10 := lt_of_block q10
      clear hw10 q10 b10 HN10 HB10 HA9
      go_wp2_with fail
      refine (HCS.out _).mono ?_
      rintro e w11 ⟨rfl, hb11⟩
      have r11 := (hb11.block _ hl10).trans R10.out
      have q11 := (hb11.block _ hm10).trans Q10.out
      have B11 := Lib.hid (B10.out.trans (hb11.mono B10.out.size))
      have k2 := (row8' q11).2.2.1
      have R11 := Lib.hid r11
      have hl11 := lt_of_block r11
      clear hb11 r11 q11
      go_wp2_with fail
      refine (HDQ.out _).mono ?_
      rintro e w12 ⟨rfl, hb12⟩
      have R12 := Lib.hid ((hb12.block _ hl11).trans R11.out)
      have B12 := Lib.hid (B11.out.trans (hb12.mono B11.out.size))
      have hl12 := lt_of_block R12.out
      clear hb12 k2
      cases d with
      | true =>
        obtain ⟨v1, v2⟩ := Y3.out rfl
        have hdb := HDB.out
        rw [v2] at hdb
        have HDB2 := Lib.hid hdb
        have V1 := Lib.hid v1
        clear v1 v2 hdb
        go_wp2_with fail
        refine (HSR.out _).mono ?_
        rintro e w13 ⟨rfl, hb13⟩
        have R13 := Lib.hid ((hb13.block _ hl12).trans R12.out)
        have B13 := Lib.hid (B12.out.trans (hb13.mono B12.out.size))
        have hs13 := B13.out.size
        have hl13 := lt_of_block R13.out
        obtain ⟨hn14, hb14⟩ := alloc_row w13 P0.cells u.cells 34
        have ha13 := heap_alloc_new w13 (.cells P0.cells 34)
        have HN14 := Lib.hid hn14
        have HB14 := Lib.hid hb14
        have HA13 := Lib.hid ha13
        clear hb13 hn14 hb14 ha13
        go_upto_region 20 with (refine wpList_store_row rfl 34 _ _ rfl w13.heap.size u.cells rfl rfl _ _ HA13.out HI8.out rfl (Prts.one u) ?_)
        generalize hw14 : World.setRow _ w13.heap.size u.cells = w14
        have q14 : w14.heap[w13.heap.size]? = some (.cells u.cells 34 (0, 0)) := by rw [← hw14]; exact HN14.out
        have b14 : Below w13.heap.size w13 w14 := by rw [← hw14]; exact HB14.out
        have r14 := (b14.block _ hl13).trans R13.out
        have B14 := Lib.hid (B13.out.trans (b14.mono hs13))
        have k2 := (row8' q14).2.2.1
        rw [V1.out] at k2
        have m2 : w14.cell? ⟨w2.heap.size, 2, none⟩ = some (.string ⟨p.pa.toArray⟩) := (row8' r14).2.2.1
        clear hw14 q14 b14 r14 HN14 HB14 HA13
        go_wp2_with fail
        refine (HDB2.out _).mono ?_
        rintro e w15 ⟨rfl, hb15⟩
        have B15 := Lib.hid (B14.out.trans (hb15.mono B14.out.size))
        go_wp2_with fail
        go_ret
        exact ⟨rfl, B15.out⟩
      | false =>
        have y4 := Y4.out rfl o.data.toList
        have hok := HOK.out
        have hol := HOL.out
        obtain ⟨c, hc⟩ : ∃ c, c = irE o.data.toList := ⟨_, rfl⟩
        rw [← hc] at hok y4
        by_cases hc0 : c = 0
        · have hy := y4 hc0
          rw [hy] at hol
          have e1 : (c != 0) = false := by simp [hc0]
          have e2 : (sB.toList == sB.toList) = true := by simp
          have hol' : ∀ w, Calls Try.prog 26 #[.string o, .string sB] w fun e w' => e = .returned (.tuple #[.string sB, .int .i64 0]) ∧ Below w.heap.size w w' := fun w => by rw [HSB.out] at hol ⊢; exact hol w
          have HOK2 := Lib.hid hok
          have HOL2 := Lib.hid hol'
          clear hc hc0 hy hol hol' hok y4
          go_wp2_with fail
          refine (HOL2.out _).mono ?_
          rintro e w13 ⟨rfl, hb13⟩
          have B13 := Lib.hid (B12.out.trans (hb13.mono B12.out.size))
          clear hb13
          go_wp2_with fail
          refine (HOK2.out _).mono ?_
          rintro e w14 ⟨rfl, hb14⟩
          have B14 := Lib.hid (B13.out.trans (hb14.mono B13.out.size))
          clear hb14
          go_wp2_with fail
          go_ret
          exact ⟨rfl, B14.out⟩
        · have e1 : (c != 0) = true := by rw [bne_iff_ne]; exact hc0
          have HOK2 := Lib.hid hok
          have HOL2 := Lib.hid hol
          clear hc hc0 hol hok y4
          go_wp2_with fail
          refine (HOL2.out _).mono ?_
          rintro e w13 ⟨rfl, hb13⟩
          have B13 := Lib.hid (B12.out.trans (hb13.mono B12.out.size))
          clear hb13
          go_wp2_with fail
          refine (HOK2.out _).mono ?_
          rintro e w14 ⟨rfl, hb14⟩
          have B14 := Lib.hid (B13.out.trans (hb14.mono B13.out.size))
          clear hb14
          go_wp2_with fail
          go_ret
          exact ⟨rfl, B14.out⟩
    · obtain ⟨n1, n2⟩ := HNO.out hx2
      have ex2 : (x2 != 0) = true := by rw [bne_iff_ne]; exact hx2
      have esB : sB.toList.isEmpty = true := by rw [Lib.toList_data, HSB.out, n1]; rfl
      have hrf := HRF.out
      rw [← HRL.out] at hrf
      obtain ⟨d, hd⟩ : ∃ d, d = refE rl := ⟨_, rfl⟩
      rw [← hd] at hrf n2
      rcases n2 with ⟨n3, n4⟩ | ⟨n3, n4⟩
      · have e3 : (x2 == d) = true := by simp [n3]
        have HRF2 := Lib.hid hrf
        clear hrf n1 n3 n4 hd hx2
        go_wp2_with fail
        refine (HRF2.out _).mono ?_
        rintro e w9 ⟨rfl, hb9⟩
        have B9 := Lib.hid (B8.out.trans (hb9.mono B8.out.size))
        clear hb9
        go_wp2_with fail
        go_ret
        exact ⟨rfl, B9.out⟩
      · have e3 : (x2 == d) = false := by rw [n4, n3]; rfl
        have e4 : (x2 == 2) = true := by simp [n3]
        have HRF2 := Lib.hid hrf
        clear hrf n1 n3 n4 hd hx2
        go_wp2_with fail
        refine (HRF2.out _).mono ?_
        rintro e w9 ⟨rfl, hb9⟩
        have B9 := Lib.hid (B8.out.trans (hb9.mono B8.out.size))
        clear hb9
        go_wp2_with fail
        go_ret
        exact ⟨rfl, B9.out⟩
  · have hsp := fun w => split2_calls s w (by omega)
    rw [← hsl] at hsp hck hrs
    rw [← hrl, resE_bad h0] at hrs
    obtain ⟨c, hc⟩ : ∃ c, c = irE sl := ⟨_, rfl⟩
    obtain ⟨f, hf⟩ : ∃ f, f = refE sl := ⟨_, rfl⟩
    rw [← hc] at hck hrs h0
    rw [← hf] at hsp
    obtain ⟨p, hp⟩ : ∃ p : Prts, p = if f = 0 then splitP sl else P0 := ⟨_, rfl⟩
    rw [← hp] at hsp
    have hsp' : ∀ w, Calls Try.prog 22 #[.string s] w fun e w' => e = .returned (.tuple #[.agg p.cells, .int .i64 f]) ∧ Below w.heap.size w w' := hsp
    have e1 : (c != 0) = true := by rw [bne_iff_ne]; exact h0
    have e2 : (c == c) = true := by simp
    have HSP := Lib.hid hsp'
    have HCK := Lib.hid hck
    have HRS := Lib.hid hrs
    clear hsp hsp' hck hrs hsl hrl hc hf hp h0
    go_enter Try.func13, Try.ntmps13
    go_wp2_with fail
    refine (awake_calls _).mono ?_
    rintro e w1 ⟨rfl, hb1⟩
    have B1 := Lib.hid hb1
    clear hb1
    go_wp2_with fail
    refine (HSP.out _).mono ?_
    rintro e w2 ⟨rfl, hb2⟩
    have B2 := Lib.hid (B1.out.trans (hb2.mono B1.out.size))
    have hs2 := B2.out.size
    obtain ⟨hn3, hb3⟩ := alloc_row w2 P0.cells p.cells 34
    have ha2 := heap_alloc_new w2 (.cells P0.cells 34)
    have HB3 := Lib.hid hb3
    have HA2 := Lib.hid ha2
    clear hb2 hn3 hb3 ha2
    go_upto_region 4 with (refine wpList_store_row rfl 34 _ _ rfl w2.heap.size p.cells rfl rfl _ _ HA2.out HI8.out rfl (Prts.one p) ?_)
    generalize hw3 : World.setRow _ w2.heap.size p.cells = w3
    have B3 := Lib.hid (B2.out.trans ((show Below w2.heap.size w2 w3 by rw [← hw3]; exact HB3.out).mono hs2))
    clear hw3 HB3 HA2
    go_wp2_with fail
    refine (HCK.out _).mono ?_
    rintro e w4 ⟨rfl, hb4⟩
    have B4 := Lib.hid (B3.out.trans (hb4.mono B3.out.size))
    clear hb4
    go_wp2_with fail
    refine (HRS.out _).mono ?_
    rintro e w5 ⟨rfl, hb5⟩
    have B5 := Lib.hid (B4.out.trans (hb5.mono B4.out.size))
    clear hb5
    go_wp2_with fail
    go_ret
    exact ⟨rfl, B5.out⟩
end Go.Proofs.Ythdkhlkmcebfeaa
