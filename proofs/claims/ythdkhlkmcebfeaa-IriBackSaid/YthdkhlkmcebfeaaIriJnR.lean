/- Join: the document's. -/
import Derived.Test.YthdkhlkmcebfeaaIriJn
set_option linter.unusedVariables false
set_option linter.unusedSimpArgs false
namespace Go.Proofs.Ythdkhlkmcebfeaa
open Go.RowKit Go.Tk
set_option maxHeartbeats 4000000 in
set_option maxRecDepth 100000 in
theorem rJoin_calls (sc au pa qu fr : List UInt8) (xa xq xf : Bool) (w : World) (hz : sc.length + au.length + pa.length + qu.length + fr.length ≤ 1000000000000000) :
    Calls Try.prog 25 #[.agg #[.string ⟨sc.toArray⟩, .string ⟨au.toArray⟩, .string ⟨pa.toArray⟩, .string ⟨qu.toArray⟩, .string ⟨fr.toArray⟩, .bool xa, .bool xq, .bool xf]] w fun e w' => e = .returned (.tuple #[.string ⟨(joinE ⟨sc, au, pa, qu, fr, xa, xq, xf⟩).1.toArray⟩, .int .i64 (joinE ⟨sc, au, pa, qu, fr, xa, xq, xf⟩).2]) ∧ Below w.heap.size w w' := by
  obtain ⟨p, hp⟩ : ∃ p : Prts, p = ⟨sc, au, pa, qu, fr, xa, xq, xf⟩ := ⟨_, rfl⟩
  have hjn := fun w => rjoin_calls sc au pa qu fr xa xq xf w hz
  obtain ⟨tx, htx⟩ : ∃ tx, tx = p.text := ⟨_, rfl⟩
  have hj2 : (joinL sc au pa qu fr xa xq xf) = tx := by rw [htx, hp]; rfl
  have htl : tx.length ≤ 1000000000000010 := by rw [htx]; have := Prts.text_len p; rw [hp] at this ⊢; simp only at this; omega
  obtain ⟨bx, hbx⟩ : ∃ bx : ByteArray, bx = ⟨tx.toArray⟩ := ⟨_, rfl⟩
  have hbl : bx.data.toList = tx := by rw [hbx]
  have hsp := rsplit2_calls bx (hs := by rw [Lib.size_eq, hbl]; omega)
  rw [hbl] at hsp
  have hjE : joinE p = if p.bad then ([], 50) else if refE tx = 0 then (if (splitP tx).eqB p then (tx, 0) else ([], 50)) else ([], refE tx) := by rw [htx]; rfl
  rw [hj2, ← hbx] at hjn
  obtain ⟨r, hr⟩ : ∃ r, r = refE tx := ⟨_, rfl⟩
  rw [← hr] at hsp hjE
  obtain ⟨pv, hpv⟩ : ∃ pv : Prts, pv = if r = 0 then splitP tx else P0 := ⟨_, rfl⟩
  rw [← hpv] at hsp
  unfold Prts.val at hsp
  rw [← hp]
  obtain ⟨rs, hrs⟩ : ∃ rs, rs = joinE p := ⟨_, rfl⟩
  rw [← hrs] at hjE ⊢
  have hbad : p.bad = ((!xa && !au.isEmpty) || (!xq && !qu.isEmpty) || (!xf && !fr.isEmpty)) := by rw [hp]; rfl
  obtain ⟨bd, hbd⟩ : ∃ bd, bd = p.bad := ⟨_, rfl⟩
  rw [← hbd] at hjE hbad
  have hpc : p.cells = #[.string ⟨sc.toArray⟩, .string ⟨au.toArray⟩, .string ⟨pa.toArray⟩, .string ⟨qu.toArray⟩, .string ⟨fr.toArray⟩, .bool xa, .bool xq, .bool xf] := by rw [hp]; rfl
  have hi8 : (Try.prog.info? 34).map (·.size) = some 8 := by kernel_rfl
  have ha := heap_alloc_new w (.cells p.cells 34)
  have hba : Below w.heap.size w (w.alloc (.cells p.cells 34)) := (Below.refl _ _).alloc (Nat.le_refl _) _
  rw [hpc] at ha hba
  have HJN := Lib.hid hjn
  have HSP := Lib.hid hsp
  have HJE := Lib.hid hjE
  have HPV := Lib.hid hpv
  have HI8 := Lib.hid hi8
  have HA := Lib.hid ha
  have HBA := Lib.hid hba
  have HBAD := Lib.hid hbad
  have HPC := Lib.hid hpc
  have HBX := Lib.hid hbx
  clear hjn htx htl hbx hbl hsp hjE hj2 hr hpv hrs hbd hi8 ha hba hz hbad hpc hp
  go_enter Try.func25, Try.ntmps25
  go_upto_region 1 with fail
  go_cut [34] (fun v wx => v = .bool bd ∧ wx = w.alloc (.cells #[.string ⟨sc.toArray⟩, .string ⟨au.toArray⟩, .string ⟨pa.toArray⟩, .string ⟨qu.toArray⟩, .string ⟨fr.toArray⟩, .bool xa, .bool xq, .bool xf] 34))
  case first =>
    have h := HBAD.out
    cases xa with
    | true =>
      cases xq with
      | true =>
        cases xf with
        | true =>
          have hb : bd = false := by rw [h]; simp [*]
          subst hb
          clear h
          go_wp2_with fail
          go_meet
          exact ⟨rfl, rfl⟩
        | false =>
          cases e2 : fr.isEmpty with
          | true =>
            have hb : bd = false := by rw [h]; simp [*]
            subst hb
            clear h
            go_wp2_with fail
            go_meet
            exact ⟨rfl, rfl⟩
          | false =>
            have hb : bd = true := by rw [h]; simp [*]
            subst hb
            clear h
            go_wp2_with fail
            go_meet
            exact ⟨rfl, rfl⟩
      | false =>
        cases e1 : qu.isEmpty with
        | true =>
          cases xf with
          | true =>
            have hb : bd = false := by rw [h]; simp [*]
            subst hb
            clear h
            go_wp2_with fail
            go_meet
            exact ⟨rfl, rfl⟩
          | false =>
            cases e2 : fr.isEmpty with
            | true =>
              have hb : bd = false := by rw [h]; simp [*]
              subst hb
              clear h
              go_wp2_with fail
              go_meet
              exact ⟨rfl, rfl⟩
            | false =>
              have hb : bd = true := by rw [h]; simp [*]
              subst hb
              clear h
              go_wp2_with fail
              go_meet
              exact ⟨rfl, rfl⟩
        | false =>
          have hb : bd = true := by rw [h]; simp [*]
          subst hb
          clear h
          go_wp2_with fail
          go_meet
          exact ⟨rfl, rfl⟩
    | false =>
      cases e0 : au.isEmpty with
      | true =>
        cases xq with
        | true =>
          cases xf with
          | true =>
            have hb : bd = false := by rw [h]; simp [*]
            subst hb
            clear h
            go_wp2_with fail
            go_meet
            exact ⟨rfl, rfl⟩
          | false =>
            cases e2 : fr.isEmpty with
            | true =>
              have hb : bd = false := by rw [h]; simp [*]
              subst hb
              clear h
              go_wp2_with fail
              go_meet
              exact ⟨rfl, rfl⟩
            | false =>
              have hb : bd = true := by rw [h]; simp [*]
              subst hb
              clear h
              go_wp2_with fail
              go_meet
              exact ⟨rfl, rfl⟩
        | false =>
          cases e1 : qu.isEmpty with
          | true =>
            cases xf with
            | true =>
              have hb : bd = false := by rw [h]; simp [*]
              subst hb
              clear h
              go_wp2_with fail
              go_meet
              exact ⟨rfl, rfl⟩
            | false =>
              cases e2 : fr.isEmpty with
              | true =>
                have hb : bd = false := by rw [h]; simp [*]
                subst hb
                clear h
                go_wp2_with fail
                go_meet
                exact ⟨rfl, rfl⟩
              | false =>
                have hb : bd = true := by rw [h]; simp [*]
                subst hb
                clear h
                go_wp2_with fail
                go_meet
                exact ⟨rfl, rfl⟩
          | false =>
            have hb : bd = true := by rw [h]; simp [*]
            subst hb
            clear h
            go_wp2_with fail
            go_meet
            exact ⟨rfl, rfl⟩
      | false =>
        have hb : bd = true := by rw [h]; simp [*]
        subst hb
        clear h
        go_wp2_with fail
        go_meet
        exact ⟨rfl, rfl⟩
  case rest =>
    obtain ⟨rfl, rfl⟩ := hcut
    cases bd with
    | true =>
      have hj : rs = ([], 50) := by rw [HJE.out, if_pos rfl]
      have HJ := Lib.hid hj
      have HB := HBA.out
      clear hj
      go_wp2_with fail
      go_ret2
      exact ⟨by rw [HJ.out]; rfl, HB⟩
    | false =>
      go_wp2_with fail
      refine (HJN.out _).mono ?_
      rintro e w1 ⟨rfl, hb1⟩
      have r1 := (hb1.block w.heap.size (by simp)).trans HA.out
      rw [← HPC.out] at r1
      have hb01 := HBA.out.trans (hb1.mono (by simp))
      have z1 := lt_of_block r1
      have R1 := Lib.hid r1
      clear r1 hb1
      go_wp2_with fail
      refine (HSP.out _).mono ?_
      rintro e w2 ⟨rfl, hb2⟩
      have r2 := (hb2.block w.heap.size z1).trans R1.out
      have hb02 := hb01.trans (hb2.mono hb01.size)
      have z2 := lt_of_block r2
      have R2 := Lib.hid r2
      clear r2 hb2
      by_cases h0 : r = 0
      · subst h0
        have heq := fun w => parts_neq pv p w
        have hgd := parts_guarded
        have hpv : pv = splitP tx := by rw [HPV.out, if_pos rfl]
        cases he : pv.eqB p with
        | true =>
          have hj : rs = (tx, 0) := by rw [HJE.out, if_neg (by simp), if_pos rfl, ← hpv, if_pos he]
          have HJ := Lib.hid hj
          rw [he] at heq
          clear hj he hpv
          go_wp2_with (first
            | (refine wpList_store_row rfl 34 _ _ rfl w2.heap.size pv.cells rfl rfl _ _ (heap_alloc_new _ _) HI8.out rfl (Prts.one pv) ?_; change wpList _ _ _ _ _ ((w2.alloc (.cells P0.cells 34)).setRow w2.heap.size pv.cells); obtain ⟨hn, hb⟩ := alloc_row w2 P0.cells pv.cells 34; generalize (w2.alloc (.cells P0.cells 34)).setRow w2.heap.size pv.cells = w3 at hn hb ⊢; (have HNw3 := Lib.hid hn); (have HBw3 := Lib.hid hb); clear hn hb)
            | (refine wpList_load_row rfl 34 (.tmp 5) rfl w2.heap.size rfl _ pv.cells _ _ HNw3.out Try.underlying34 rfl HI8.out ?_)
            | (refine wpList_load_row rfl 34 (.tmp 1) rfl w.heap.size rfl _ p.cells _ _ ((HBw3.out.block _ z2).trans R2.out) Try.underlying34 rfl HI8.out ?_))
          go_ret2
          exact ⟨by rw [HJ.out, ← HBX.out]; rfl, hb02.trans (HBw3.out.mono hb02.size)⟩
        | false =>
          have hj : rs = ([], 50) := by rw [HJE.out, if_neg (by simp), if_pos rfl, ← hpv, if_neg (by simp [he])]
          have HJ := Lib.hid hj
          rw [he] at heq
          clear hj he hpv
          go_wp2_with (first
            | (refine wpList_store_row rfl 34 _ _ rfl w2.heap.size pv.cells rfl rfl _ _ (heap_alloc_new _ _) HI8.out rfl (Prts.one pv) ?_; change wpList _ _ _ _ _ ((w2.alloc (.cells P0.cells 34)).setRow w2.heap.size pv.cells); obtain ⟨hn, hb⟩ := alloc_row w2 P0.cells pv.cells 34; generalize (w2.alloc (.cells P0.cells 34)).setRow w2.heap.size pv.cells = w3 at hn hb ⊢; (have HNw3 := Lib.hid hn); (have HBw3 := Lib.hid hb); clear hn hb)
            | (refine wpList_load_row rfl 34 (.tmp 5) rfl w2.heap.size rfl _ pv.cells _ _ HNw3.out Try.underlying34 rfl HI8.out ?_)
            | (refine wpList_load_row rfl 34 (.tmp 1) rfl w.heap.size rfl _ p.cells _ _ ((HBw3.out.block _ z2).trans R2.out) Try.underlying34 rfl HI8.out ?_))
          go_ret2
          exact ⟨by rw [HJ.out]; rfl, hb02.trans (HBw3.out.mono hb02.size)⟩
      · have hj : rs = ([], r) := by rw [HJE.out, if_neg (by simp), if_neg h0]
        have HJ := Lib.hid hj
        have e1 : (r == 0) = false := by rw [beq_eq_false_iff_ne]; exact h0
        have e2 : (r != 0) = true := by rw [bne_iff_ne]; exact h0
        clear hj h0
        go_wp2_with (first
          | (refine wpList_store_row rfl 34 _ _ rfl w2.heap.size pv.cells rfl rfl _ _ (heap_alloc_new _ _) HI8.out rfl (Prts.one pv) ?_; change wpList _ _ _ _ _ ((w2.alloc (.cells P0.cells 34)).setRow w2.heap.size pv.cells); obtain ⟨hn, hb⟩ := alloc_row w2 P0.cells pv.cells 34; generalize (w2.alloc (.cells P0.cells 34)).setRow w2.heap.size pv.cells = w3 at hn hb ⊢; (have HNw3 := Lib.hid hn); (have HBw3 := Lib.hid hb); clear hn hb)
          | (refine wpList_load_row rfl 34 (.tmp 5) rfl w2.heap.size rfl _ pv.cells _ _ HNw3.out Try.underlying34 rfl HI8.out ?_)
          | (refine wpList_load_row rfl 34 (.tmp 1) rfl w.heap.size rfl _ p.cells _ _ ((HBw3.out.block _ z2).trans R2.out) Try.underlying34 rfl HI8.out ?_))
        go_ret2
        exact ⟨by rw [HJ.out]; rfl, hb02.trans (HBw3.out.mono hb02.size)⟩
end Go.Proofs.Ythdkhlkmcebfeaa
