/- IriBack: there and back. -/
import Derived.Test.YthdkhlkmcebfeaaIriAwake
import Derived.Test.YthdkhlkmcebfeaaIriSplits
set_option linter.unusedVariables false
set_option linter.unusedSimpArgs false
namespace Go.Tk
open Go Go.RowKit
theorem split_good (l : List UInt8) : (splitP l).bad = false := by
  unfold splitP Prts.bad
  have h1 : ((!Prts.hasA (Prts.s1 l)) && !(Prts.auth (Prts.s1 l)).isEmpty) = false := by
    unfold Prts.auth; cases Prts.hasA (Prts.s1 l) <;> simp
  have h2 : ((!Prts.hasQ (Prts.s3 (Prts.s2 (Prts.s1 l)))) && !(Prts.query (Prts.s3 (Prts.s2 (Prts.s1 l)))).isEmpty) = false := by
    unfold Prts.query; cases Prts.hasQ (Prts.s3 (Prts.s2 (Prts.s1 l))) <;> simp
  have h3 : ((!Prts.hasF (Prts.s4 (Prts.s3 (Prts.s2 (Prts.s1 l))))) && !(Prts.frag (Prts.s4 (Prts.s3 (Prts.s2 (Prts.s1 l))))).isEmpty) = false := by
    rcases s4_head (Prts.s2 (Prts.s1 l)) with h | h
    · rw [h]; decide
    · rw [h]; rfl
  simp only [h1, h2, h3, Bool.or_self]
theorem join_split {l : List UInt8} (h : refE l = 0) : joinE (splitP l) = (l, 0) := by
  unfold joinE
  rw [split_good, text_splitP, if_neg (by simp), if_pos h, if_pos (Prts.eqB_refl _)]
theorem join_no {p : Prts} (h : (joinE p).2 ≠ 0) : (joinE p).1 = [] := by
  unfold joinE at h ⊢
  split
  · rfl
  · split
    · split
      · rename_i h1 h2 h3
        rw [if_neg h1, if_pos h2, if_pos h3] at h
        exact absurd rfl h
      · rfl
    · rfl
theorem join_yes {p : Prts} (h : (joinE p).2 = 0) : (joinE p).1 = p.text ∧ refE p.text = 0 ∧ splitP p.text = p := by
  unfold joinE at h ⊢
  split at h
  · simp at h
  · rename_i h1
    split at h
    · rename_i h2
      split at h
      · rename_i h3
        rw [if_neg h1, if_pos h2, if_pos h3]
        exact ⟨rfl, h2, (Prts.eqB_iff _ _).1 h3⟩
      · simp at h
    · rename_i h2
      exact absurd h h2
end Go.Tk
namespace Go.Proofs.Ythdkhlkmcebfeaa
open Go.RowKit Go.Tk
set_option maxHeartbeats 2000000 in
set_option maxRecDepth 100000 in
theorem iriback_go (w : World) (s : ByteArray) (p : Prts) (hs : s.size ≤ 140737488351232) (hz : p.sc.length + p.au.length + p.pa.length + p.qu.length + p.fr.length ≤ 1000000000000000) :
    Calls Try.prog 12 #[.string s, .agg #[.string ⟨p.sc.toArray⟩, .string ⟨p.au.toArray⟩, .string ⟨p.pa.toArray⟩, .string ⟨p.qu.toArray⟩, .string ⟨p.fr.toArray⟩, .bool p.ha, .bool p.hq, .bool p.hf]] w fun e w' => e = .returned (.bool true) ∧ Below w.heap.size w w' := by
  have hsp := fun w => split2_calls s w (by omega)
  have hz1 : refE s.data.toList = 0 → s.size ≤ 65536 := refE_size
  have hsum := splitP_sum s.data.toList
  rw [← Lib.size_eq] at hsum
  have hjs : refE s.data.toList = 0 → joinE (splitP s.data.toList) = (s.data.toList, 0) := join_split
  have hjq : refE s.data.toList = 0 → ∀ w, Calls Try.prog 24 #[.agg (splitP s.data.toList).cells] w fun e w' => e = .returned (.tuple #[.string s, .int .i64 0]) ∧ Below w.heap.size w w' := fun h w => by
    have := iJoin_calls (splitP s.data.toList).sc (splitP s.data.toList).au (splitP s.data.toList).pa (splitP s.data.toList).qu (splitP s.data.toList).fr (splitP s.data.toList).ha (splitP s.data.toList).hq (splitP s.data.toList).hf w (by have := hz1 h; unfold Prts.sum at hsum; omega)
    have e := hjs h
    have e2 : joinE ⟨(splitP s.data.toList).sc, (splitP s.data.toList).au, (splitP s.data.toList).pa, (splitP s.data.toList).qu, (splitP s.data.toList).fr, (splitP s.data.toList).ha, (splitP s.data.toList).hq, (splitP s.data.toList).hf⟩ = (s.data.toList, 0) := e
    rw [e2] at this
    have e3 : (⟨s.data.toList.toArray⟩ : ByteArray) = s := byte_ext rfl
    simp only [e3] at this
    exact this
  have hjp : ∀ w, Calls Try.prog 24 #[.agg p.cells] w fun e w' => e = .returned (.tuple #[.string ⟨(joinE p).1.toArray⟩, .int .i64 (joinE p).2]) ∧ Below w.heap.size w w' := fun w => iJoin_calls p.sc p.au p.pa p.qu p.fr p.ha p.hq p.hf w hz
  have htl := Prts.text_len p
  have hst : ∀ w, refE p.text = 0 → Calls Try.prog 22 #[.string ⟨p.text.toArray⟩] w fun e w' => e = .returned (.tuple #[.agg (splitP p.text).cells, .int .i64 0]) ∧ Below w.heap.size w w' := fun w h => by
    have := split2_calls ⟨p.text.toArray⟩ w (by rw [Lib.size_eq]; show p.text.length ≤ _; omega)
    rw [show (⟨p.text.toArray⟩ : ByteArray).data.toList = p.text from rfl, if_pos h, h] at this
    exact this
  have hyes : (joinE p).2 = 0 → (joinE p).1 = p.text ∧ refE p.text = 0 ∧ splitP p.text = p := join_yes
  have hno : (joinE p).2 ≠ 0 → (joinE p).1 = [] := join_no
  obtain ⟨r, hr⟩ : ∃ r, r = refE s.data.toList := ⟨_, rfl⟩
  obtain ⟨q, hq⟩ : ∃ q, q = splitP s.data.toList := ⟨_, rfl⟩
  rw [← hr] at hsp hjq
  rw [← hq] at hsp hjq
  obtain ⟨qv, hqv⟩ : ∃ qv : Prts, qv = if r = 0 then q else P0 := ⟨_, rfl⟩
  rw [← hqv] at hsp
  obtain ⟨j, hj⟩ : ∃ j, j = joinE p := ⟨_, rfl⟩
  rw [← hj] at hjp hyes hno
  obtain ⟨j1, j2⟩ := j
  simp only at hjp hyes hno
  have hi8 : (Try.prog.info? 34).map (·.size) = some 8 := by kernel_rfl
  have ha := heap_alloc_new w (.cells p.cells 34)
  have hba : Below w.heap.size w (w.alloc (.cells p.cells 34)) := (Below.refl _ _).alloc (Nat.le_refl _) _
  have HI8 := Lib.hid hi8
  have HA := Lib.hid ha
  have HBA := Lib.hid hba
  have HSP : Hid (∀ w, Calls Try.prog 22 #[.string s] w fun e w' => e = .returned (.tuple #[.agg qv.cells, .int .i64 r]) ∧ Below w.heap.size w w') := Lib.hid hsp
  have HJQ := Lib.hid hjq
  have HJP := Lib.hid hjp
  have HST := Lib.hid hst
  have HYES := Lib.hid hyes
  have HNO := Lib.hid hno
  have HQV := Lib.hid hqv
  have heq := fun w => parts_eql p p w
  simp only [Prts.eqB_refl] at heq
  have HEQ := Lib.hid heq
  clear hsp hz1 hsum hjs hjq hjp htl hst hyes hno hr hq hqv hj hi8 ha hba heq hz
  go_enter Try.func12, Try.ntmps12
  go_wp2_with fail
  refine (awake_calls _).mono ?_
  rintro e w2 ⟨rfl, hb2⟩
  have rp2 := (hb2.block w.heap.size (by simp)).trans HA.out
  have b2 := HBA.out.trans (hb2.mono (by simp))
  have RP2 := Lib.hid rp2
  have B2 := Lib.hid b2
  have hs2 := lt_of_block rp2
  clear hb2 rp2 b2
  go_wp2_with fail
  refine (HSP.out _).mono ?_
  rintro e w3 ⟨rfl, hb3⟩
  have rp3 := (hb3.block w.heap.size hs2).trans RP2.out
  have b3 := B2.out.trans (hb3.mono B2.out.size)
  have hs3 := lt_of_block rp3
  obtain ⟨hn4, hb4⟩ := alloc_row w3 P0.cells qv.cells 34
  have ha3 := heap_alloc_new w3 (.cells P0.cells 34)
  have RP3 := Lib.hid rp3
  have B3 := Lib.hid b3
  have HN4 := Lib.hid hn4
  have HB4 := Lib.hid hb4
  have HA3 := Lib.hid ha3
  clear hb3 rp3 b3 hn4 hb4 ha3
  go_upto_region 4 with (refine wpList_store_row rfl 34 _ _ rfl w3.heap.size qv.cells rfl rfl _ _ HA3.out HI8.out rfl (Prts.one qv) ?_)
  generalize hw4 : World.setRow _ w3.heap.size qv.cells = w4
  have r5 : w4.heap[w3.heap.size]? = some (.cells qv.cells 34 (0, 0)) := by rw [← hw4]; exact HN4.out
  have bb4 : Below w3.heap.size w3 w4 := by rw [← hw4]; exact HB4.out
  have rp4 := (bb4.block w.heap.size hs3).trans RP3.out
  have b4 := B3.out.trans (bb4.mono (by omega))
  have hs4 := lt_of_block rp4
  have hs5 := lt_of_block r5
  have R5 := Lib.hid r5
  have RP := Lib.hid rp4
  have BX := Lib.hid b4
  clear hw4 r5 bb4 rp4 b4 HN4 HB4 HA3 RP3 B3
  by_cases h0 : r = 0
  · have e0 : (r == 0) = true := by simp [h0]
    have hqq : qv = q := by rw [HQV.out, if_pos h0]
    subst hqq
    have hjq := HJQ.out h0
    have HJQ2 := Lib.hid hjq
    have es : (s.toList != s.toList) = false := by simp
    clear hjq h0
    go_upto_region 8 with (first
      | (refine wpList_load_row rfl 34 _ rfl w3.heap.size rfl _ qv.cells _ _ R5.out Try.underlying34 rfl HI8.out ?_)
      | (go_at_call 24; refine (HJQ2.out _).mono ?_; rintro e w5 ⟨rfl, hb5⟩; (have RP' := Lib.hid ((hb5.block _ hs4).trans RP.out)); (have R5' := Lib.hid ((hb5.block _ hs5).trans R5.out)); (have BX' := Lib.hid (BX.out.trans (hb5.mono BX.out.size))); clear hb5))
    have hs6 := lt_of_block RP'.out
    have hs7 := lt_of_block R5'.out
    by_cases hj0 : j2 = 0
    · obtain ⟨y1, y2, y3⟩ := HYES.out hj0
      have ej : (j2 != 0) = false := by simp [hj0]
      have hst := fun w => HST.out w y2
      rw [y3, ← y1] at hst
      have HST2 := Lib.hid hst
      clear hj0 y1 y2 y3 hst
      go_upto_region 11 with (first
        | (refine wpList_load_row rfl 34 _ rfl w.heap.size rfl _ p.cells _ _ RP'.out Try.underlying34 rfl HI8.out ?_)
        | (go_at_call 24; refine (HJP.out _).mono ?_; rintro e w6 ⟨rfl, hb6⟩; (have RP6 := Lib.hid ((hb6.block _ hs6).trans RP'.out)); (have R56 := Lib.hid ((hb6.block _ hs7).trans R5'.out)); (have B6 := Lib.hid (BX'.out.trans (hb6.mono BX'.out.size))); clear hb6))
      have hs8 := lt_of_block RP6.out
      have hs9 := lt_of_block R56.out
      go_wp2_with fail
      refine (HST2.out _).mono ?_
      rintro e w7 ⟨rfl, hb7⟩
      have RP7 := Lib.hid ((hb7.block _ hs8).trans RP6.out)
      have R57 := Lib.hid ((hb7.block _ hs9).trans R56.out)
      have B7 := Lib.hid (B6.out.trans (hb7.mono B6.out.size))
      clear hb7
      have hnew := setRow_heap w7 w3.heap.size _ p.cells _ _ R57.out
      have hp8 := (setRow_other w7 w3.heap.size w.heap.size p.cells (by omega)).trans RP7.out
      have hb8 : Below w.heap.size w (w7.setRow w3.heap.size p.cells) := ⟨B7.out.os, B7.out.tape, B7.out.output, by simpa using B7.out.size, fun k hk => (setRow_other w7 _ k _ (by omega)).trans (B7.out.block k hk)⟩
      have HNEW := Lib.hid hnew
      have HP8 := Lib.hid hp8
      have HB8 := Lib.hid hb8
      clear hnew hp8 hb8
      go_upto_region 12 with (refine wpList_store_row rfl 34 _ _ rfl w3.heap.size p.cells rfl rfl _ _ R57.out HI8.out rfl (Prts.one p) ?_)
      generalize hwz : World.setRow _ w3.heap.size p.cells = wz
      have hq1 : wz.heap[w3.heap.size]? = some (.cells p.cells 34 (0, 0)) := by rw [← hwz]; exact HNEW.out
      have hq2 : wz.heap[w.heap.size]? = some (.cells p.cells 34 (0, 0)) := by rw [← hwz]; exact HP8.out
      have hq3 : Below w.heap.size w wz := by rw [← hwz]; exact HB8.out
      obtain ⟨m0, m1, m2, m3, m4, m5, m6, m7⟩ := row8' hq1
      obtain ⟨l0, l1, l2, l3, l4, l5, l6, l7⟩ := row8' hq2
      have HB9 := Lib.hid hq3
      have heq : ∀ w, (binOp .eql 34 (.agg #[.string ⟨p.sc.toArray⟩, .string ⟨p.au.toArray⟩, .string ⟨p.pa.toArray⟩, .string ⟨p.qu.toArray⟩, .string ⟨p.fr.toArray⟩, .bool p.ha, .bool p.hq, .bool p.hf]) (.agg #[.string ⟨p.sc.toArray⟩, .string ⟨p.au.toArray⟩, .string ⟨p.pa.toArray⟩, .string ⟨p.qu.toArray⟩, .string ⟨p.fr.toArray⟩, .bool p.ha, .bool p.hq, .bool p.hf])).run Try.prog w = .ok (.bool true) w := HEQ.out
      have hgd := parts_guarded
      clear hwz hq1 hq2 hq3
      go_wp2_with fail
      go_ret
      exact ⟨rfl, HB9.out⟩
    · have hn := HNO.out hj0
      have ej : (j2 != 0) = true := by rw [bne_iff_ne]; exact hj0
      subst hn
      clear hj0
      go_wp2_with (first
        | (refine wpList_load_row rfl 34 _ rfl w.heap.size rfl _ p.cells _ _ RP'.out Try.underlying34 rfl HI8.out ?_)
        | (go_at_call 24; refine (HJP.out _).mono ?_; rintro e w6 ⟨rfl, hb6⟩; (have B6 := Lib.hid (BX'.out.trans (hb6.mono BX'.out.size))); clear hb6))
      go_ret
      exact ⟨rfl, B6.out⟩
  · have e0 : (r == 0) = false := by simp [h0]
    clear h0
    go_upto_region 8 with fail
    have hs6 := lt_of_block RP.out
    have hs7 := lt_of_block R5.out
    by_cases hj0 : j2 = 0
    · obtain ⟨y1, y2, y3⟩ := HYES.out hj0
      have ej : (j2 != 0) = false := by simp [hj0]
      have hst := fun w => HST.out w y2
      rw [y3, ← y1] at hst
      have HST2 := Lib.hid hst
      clear hj0 y1 y2 y3 hst
      go_upto_region 11 with (first
        | (refine wpList_load_row rfl 34 _ rfl w.heap.size rfl _ p.cells _ _ RP.out Try.underlying34 rfl HI8.out ?_)
        | (go_at_call 24; refine (HJP.out _).mono ?_; rintro e w6 ⟨rfl, hb6⟩; (have RP6 := Lib.hid ((hb6.block _ hs6).trans RP.out)); (have R56 := Lib.hid ((hb6.block _ hs7).trans R5.out)); (have B6 := Lib.hid (BX.out.trans (hb6.mono BX.out.size))); clear hb6))
      have hs8 := lt_of_block RP6.out
      have hs9 := lt_of_block R56.out
      go_wp2_with fail
      refine (HST2.out _).mono ?_
      rintro e w7 ⟨rfl, hb7⟩
      have RP7 := Lib.hid ((hb7.block _ hs8).trans RP6.out)
      have R57 := Lib.hid ((hb7.block _ hs9).trans R56.out)
      have B7 := Lib.hid (B6.out.trans (hb7.mono B6.out.size))
      clear hb7
      have hnew := setRow_heap w7 w3.heap.size _ p.cells _ _ R57.out
      have hp8 := (setRow_other w7 w3.heap.size w.heap.size p.cells (by omega)).trans RP7.out
      have hb8 : Below w.heap.size w (w7.setRow w3.heap.size p.cells) := ⟨B7.out.os, B7.out.tape, B7.out.output, by simpa using B7.out.size, fun k hk => (setRow_other w7 _ k _ (by omega)).trans (B7.out.block k hk)⟩
      have HNEW := Lib.hid hnew
      have HP8 := Lib.hid hp8
      have HB8 := Lib.hid hb8
      clear hnew hp8 hb8
      go_upto_region 12 with (refine wpList_store_row rfl 34 _ _ rfl w3.heap.size p.cells rfl rfl _ _ R57.out HI8.out rfl (Prts.one p) ?_)
      generalize hwz : World.setRow _ w3.heap.size p.cells = wz
      have hq1 : wz.heap[w3.heap.size]? = some (.cells p.cells 34 (0, 0)) := by rw [← hwz]; exact HNEW.out
      have hq2 : wz.heap[w.heap.size]? = some (.cells p.cells 34 (0, 0)) := by rw [← hwz]; exact HP8.out
      have hq3 : Below w.heap.size w wz := by rw [← hwz]; exact HB8.out
      obtain ⟨m0, m1, m2, m3, m4, m5, m6, m7⟩ := row8' hq1
      obtain ⟨l0, l1, l2, l3, l4, l5, l6, l7⟩ := row8' hq2
      have HB9 := Lib.hid hq3
      have heq : ∀ w, (binOp .eql 34 (.agg #[.string ⟨p.sc.toArray⟩, .string ⟨p.au.toArray⟩, .string ⟨p.pa.toArray⟩, .string ⟨p.qu.toArray⟩, .string ⟨p.fr.toArray⟩, .bool p.ha, .bool p.hq, .bool p.hf]) (.agg #[.string ⟨p.sc.toArray⟩, .string ⟨p.au.toArray⟩, .string ⟨p.pa.toArray⟩, .string ⟨p.qu.toArray⟩, .string ⟨p.fr.toArray⟩, .bool p.ha, .bool p.hq, .bool p.hf])).run Try.prog w = .ok (.bool true) w := HEQ.out
      have hgd := parts_guarded
      clear hwz hq1 hq2 hq3
      go_wp2_with fail
      go_ret
      exact ⟨rfl, HB9.out⟩
    · have hn := HNO.out hj0
      have ej : (j2 != 0) = true := by rw [bne_iff_ne]; exact hj0
      subst hn
      clear hj0
      go_wp2_with (first
        | (refine wpList_load_row rfl 34 _ rfl w.heap.size rfl _ p.cells _ _ RP.out Try.underlying34 rfl HI8.out ?_)
        | (go_at_call 24; refine (HJP.out _).mono ?_; rintro e w6 ⟨rfl, hb6⟩; (have B6 := Lib.hid (BX.out.trans (hb6.mono BX.out.size))); clear hb6))
      go_ret
      exact ⟨rfl, B6.out⟩
end Go.Proofs.Ythdkhlkmcebfeaa
