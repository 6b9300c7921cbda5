/- Join: the program's, the document's. -/
import Derived.Test.YthdkhlkmcebfeaaIriJoin
import Derived.Deep.DeepCutAuto
set_option linter.unusedVariables false
set_option linter.unusedSimpArgs false
namespace Go.Tk
open Go Go.RowKit
/-- Is there a part that is not empty and that the parts do not have? -/
def Prts.bad (p : Prts) : Bool := (!p.ha && !p.au.isEmpty) || (!p.hq && !p.qu.isEmpty) || (!p.hf && !p.fr.isEmpty)
/-- What Join answers. -/
def joinE (p : Prts) : List UInt8 × Int := if p.bad then ([], 50) else if refE p.text = 0 then (if (splitP p.text).eqB p then (p.text, 0) else ([], 50)) else ([], refE p.text)
theorem row8 {w : World} {g : Nat} {T : TypeId} {v0 v1 v2 v3 v4 v5 v6 v7 : Value} (h : w.heap[g]? = some (.cells #[v0, v1, v2, v3, v4, v5, v6, v7] T (0, 0))) :
    w.cell? ⟨g, 0, none⟩ = some v0 ∧ w.cell? ⟨g, 1, none⟩ = some v1 ∧ w.cell? ⟨g, 2, none⟩ = some v2 ∧ w.cell? ⟨g, 3, none⟩ = some v3 ∧ w.cell? ⟨g, 4, none⟩ = some v4 ∧ w.cell? ⟨g, 5, none⟩ = some v5 ∧ w.cell? ⟨g, 6, none⟩ = some v6 ∧ w.cell? ⟨g, 7, none⟩ = some v7 :=
  ⟨cell_of_row _ _ 0 _ _ _ h, cell_of_row _ _ 1 _ _ _ h, cell_of_row _ _ 2 _ _ _ h, cell_of_row _ _ 3 _ _ _ h, cell_of_row _ _ 4 _ _ _ h, cell_of_row _ _ 5 _ _ _ h, cell_of_row _ _ 6 _ _ _ h, cell_of_row _ _ 7 _ _ _ h⟩
theorem Prts.text_len (p : Prts) : p.text.length ≤ p.sc.length + p.au.length + p.pa.length + p.qu.length + p.fr.length + 5 := by
  unfold Prts.text joinL
  have := tailL_len p.qu p.fr p.hq p.hf
  simp only [List.length_append]
  have h1 : (if p.sc = [] then ([] : List UInt8) else p.sc ++ [58]).length ≤ p.sc.length + 1 := by split <;> simp
  have h2 : (if p.ha then 47 :: 47 :: p.au else ([] : List UInt8)).length ≤ p.au.length + 2 := by split <;> simp
  omega
end Go.Tk
namespace Go.Proofs.Ythdkhlkmcebfeaa
open Go.RowKit Go.Tk
set_option maxHeartbeats 4000000 in
set_option maxRecDepth 100000 in
theorem iJoin_calls (sc au pa qu fr : List UInt8) (xa xq xf : Bool) (w : World) (hz : sc.length + au.length + pa.length + qu.length + fr.length ≤ 1000000000000000) :
    Calls Try.prog 24 #[.agg #[.string ⟨sc.toArray⟩, .string ⟨au.toArray⟩, .string ⟨pa.toArray⟩, .string ⟨qu.toArray⟩, .string ⟨fr.toArray⟩, .bool xa, .bool xq, .bool xf]] w fun e w' => e = .returned (.tuple #[.string ⟨(joinE ⟨sc, au, pa, qu, fr, xa, xq, xf⟩).1.toArray⟩, .int .i64 (joinE ⟨sc, au, pa, qu, fr, xa, xq, xf⟩).2]) ∧ Below w.heap.size w w' := by
  obtain ⟨p, hp⟩ : ∃ p : Prts, p = ⟨sc, au, pa, qu, fr, xa, xq, xf⟩ := ⟨_, rfl⟩
  have hjn := fun w => ijoin_calls sc au pa qu fr xa xq xf w hz
  obtain ⟨tx, htx⟩ : ∃ tx, tx = p.text := ⟨_, rfl⟩
  have hj2 : (joinL sc au pa qu fr xa xq xf) = tx := by rw [htx, hp]; rfl
  have htl : tx.length ≤ 1000000000000010 := by rw [htx]; have := Prts.text_len p; rw [hp] at this ⊢; simp only at this; omega
  obtain ⟨bx, hbx⟩ : ∃ bx : ByteArray, bx = ⟨tx.toArray⟩ := ⟨_, rfl⟩
  have hbl : bx.data.toList = tx := by rw [hbx]
  have hsp := split2_calls bx (hs := by rw [Lib.size_eq, hbl]; omega)
  rw [hbl] at hsp
  have hjE : joinE p = if p.bad then ([], 50) else if refE tx = 0 then (if (splitP tx).eqB p then (tx, 0) else ([], 50)) else ([], refE tx) := by rw [htx]; rfl
  rw [hj2, ← hbx] at hjn
  obtain ⟨r, hr⟩ : ∃ r, r = refE tx := ⟨_, rfl⟩
  rw [← hr] at hsp hjE
  obtain ⟨pv, hpv⟩ : ∃ pv : Prts, pv = if r = 0 then splitP tx else P0 := ⟨_, rfl⟩
  rw [← hpv] at hsp
  unfold Prts.val at hsp
  rw [← hp]
  obtain ⟨rs, hrs⟩ : ∃ rs, rs = joinE p := ⟨_, rfl⟩
  rw [← hrs] at hjE ⊢
  have hbad : p.bad = ((!xa && !au.isEmpty) || (!xq && !qu.isEmpty) || (!xf && !fr.isEmpty)) := by rw [hp]; rfl
  obtain ⟨bd, hbd⟩ : ∃ bd, bd = p.bad := ⟨_, rfl⟩
  rw [← hbd] at hjE hbad
  have hpc : p.cells = #[.string ⟨sc.toArray⟩, .string ⟨au.toArray⟩, .string ⟨pa.toArray⟩, .string ⟨qu.toArray⟩, .string ⟨fr.toArray⟩, .bool xa, .bool xq, .bool xf] := by rw [hp]; rfl
  have hi8 : (Try.prog.info? 34).map (·.size) = some 8 := by kernel_rfl
  have ha := heap_alloc_new w (.cells p.cells 34)
  have hba : Below w.heap.size w (w.alloc (.cells p.cells 34)) := (Below.refl _ _).alloc (Nat.le_refl _) _
  rw [hpc] at ha hba
  have HJN := Lib.hid hjn
  have HSP := Lib.hid hsp
  have HJE := Lib.hid hjE
  have HPV := Lib.hid hpv
  have HI8 := Lib.hid hi8
  have HA := Lib.hid ha
  have HBA := Lib.hid hba
  have HBAD := Lib.hid hbad
  have HPC := Lib.hid hpc
  have HBX := Lib.hid hbx
  clear hjn htx htl hbx hbl hsp hjE hj2 hr hpv hrs hbd hi8 ha hba hz hbad hpc hp
  go_enter Try.func24, Try.ntmps24
  go_upto_region 1 with fail
  go_cut [34] (fun v wx => v = .bool bd ∧ wx = w.alloc (.cells #[.string ⟨sc.toArray⟩, .string ⟨au.toArray⟩, .string ⟨pa.toArray⟩, .string ⟨qu.toArray⟩, .string ⟨fr.toArray⟩, .bool xa, .bool xq, .bool xf] 34))
  case first =>
    have h := HBAD.out
    cases xa with
    | true =>
      cases xq with
      | true =>
        cases xf with
        | true =>
          have hb : bd = false := by rw [h]; simp [*]
          subst hb
          clear h
          go_wp2_with fail
          go_meet
          exact ⟨rfl, rfl⟩
        | false =>
          cases e2 : fr.isEmpty with
          | true =>
            have hb : bd = false := by rw [h]; simp [*]
            subst hb
            clear h
            go_wp2_with fail
            go_meet
            exact ⟨rfl, rfl⟩
          | false =>
            have hb : bd = true := by rw [h]; simp [*]
            subst hb
            clear h
            go_wp2_with fail
            go_meet
            exact ⟨rfl, rfl⟩
      | false =>
        cases e1 : qu.isEmpty with
        | true =>
          cases xf with
          | true =>
            have hb : bd = false := by rw [h]; simp [*]
            subst hb
            clear h
            go_wp2_with fail
            go_meet
            exact ⟨rfl, rfl⟩
          | false =>
            cases e2 : fr.isEmpty with
            | true =>
              have hb : bd = false := by rw [h]; simp [*]
              subst hb
              clear h
              go_wp2_with fail
              go_meet
              exact ⟨rfl, rfl⟩
            | false =>
              have hb : bd = true := by rw [h]; simp [*]
              subst hb
              clear h
              go_wp2_with fail
              go_meet
              exact ⟨rfl, rfl⟩
        | false =>
          have hb : bd = true := by rw [h]; simp [*]
          subst hb
          clear h
          go_wp2_with fail
          go_meet
          exact ⟨rfl, rfl⟩
    | false =>
      cases e0 : au.isEmpty with
      | true =>
        cases xq with
        | true =>
          cases xf with
          | true =>
            have hb : bd = false := by rw [h]; simp [*]
            subst hb
            clear h
            go_wp2_with fail
            go_meet
            exact ⟨rfl, rfl⟩
          | false =>
            cases e2 : fr.isEmpty with
            | true =>
              have hb : bd = false := by rw [h]; simp [*]
              subst hb
              clear h
              go_wp2_with fail
              go_meet
              exact ⟨rfl, rfl⟩
            | false =>
              have hb : bd = true := by rw [h]; simp [*]
              subst hb
              clear h
              go_wp2_with fail
              go_meet
              exact ⟨rfl, rfl⟩
        | false =>
          cases e1 : qu.isEmpty with
          | true =>
            cases xf with
            | true =>
              have hb : bd = false := by rw [h]; simp [*]
              subst hb
              clear h
              go_wp2_with fail
              go_meet
              exact ⟨rfl, rfl⟩
            | false =>
              cases e2 : fr.isEmpty with
              | true =>
                have hb : bd = false := by rw [h]; simp [*]
                subst hb
                clear h
                go_wp2_with fail
                go_meet
                exact ⟨rfl, rfl⟩
              | false =>
                have hb : bd = true := by rw [h]; simp [*]
                subst hb
                clear h
                go_wp2_with fail
                go_meet
                exact ⟨rfl, rfl⟩
          | false =>
            have hb : bd = true := by rw [h]; simp [*]
            subst hb
            clear h
            go_wp2_with fail
            go_meet
            exact ⟨rfl, rfl⟩
      | false =>
        have hb : bd = true := by rw [h]; simp [*]
        subst hb
        clear h
        go_wp2_with fail
        go_meet
        exact ⟨rfl, rfl⟩
  case rest =>
    obtain ⟨rfl, rfl⟩ := hcut
    cases bd with
    | true =>
      have hj : rs = ([], 50) := by rw [HJE.out, if_pos rfl]
      have HJ := Lib.hid hj
      have HB := HBA.out
      clear hj
      go_wp2_with fail
      go_ret2
      exact ⟨by rw [HJ.out]; rfl, HB⟩
    | false =>
      go_wp2_with fail
      refine (HJN.out _).mono ?_
      rintro e w1 ⟨rfl, hb1⟩
      have r1 := (hb1.block w.heap.size (by simp)).trans HA.out
      rw [← HPC.out] at r1
      have hb01 := HBA.out.trans (hb1.mono (by simp))
      have z1 := lt_of_block r1
      have R1 := Lib.hid r1
      clear r1 hb1
      go_wp2_with fail
      refine (HSP.out _).mono ?_
      rintro e w2 ⟨rfl, hb2⟩
      have r2 := (hb2.block w.heap.size z1).trans R1.out
      have hb02 := hb01.trans (hb2.mono hb01.size)
      have z2 := lt_of_block r2
      have R2 := Lib.hid r2
      clear r2 hb2
      by_cases h0 : r = 0
      · subst h0
        have heq : ∀ w, (binOp .neq 34 (.agg #[.string ⟨pv.sc.toArray⟩, .string ⟨pv.au.toArray⟩, .string ⟨pv.pa.toArray⟩, .string ⟨pv.qu.toArray⟩, .string ⟨pv.fr.toArray⟩, .bool pv.ha, .bool pv.hq, .bool pv.hf]) (.agg #[.string ⟨sc.toArray⟩, .string ⟨au.toArray⟩, .string ⟨pa.toArray⟩, .string ⟨qu.toArray⟩, .string ⟨fr.toArray⟩, .bool xa, .bool xq, .bool xf])).run Try.prog w = .ok (.bool (!pv.eqB p)) w := fun w => by have := parts_neq pv p w; rw [HPC.out] at this; exact this
        have hgd := parts_guarded
        have hpv : pv = splitP tx := by rw [HPV.out, if_pos rfl]
        cases he : pv.eqB p with
        | true =>
          have hj : rs = (tx, 0) := by rw [HJE.out, if_neg (by simp), if_pos rfl, ← hpv, if_pos he]
          have HJ := Lib.hid hj
          rw [he] at heq
          clear hj he hpv
          go_wp2_with (first
            | (refine wpList_store_row rfl 34 _ _ rfl w2.heap.size pv.cells rfl rfl _ _ (heap_alloc_new _ _) HI8.out rfl (Prts.one pv) ?_; change wpList _ _ _ _ _ ((w2.alloc (.cells P0.cells 34)).setRow w2.heap.size pv.cells); obtain ⟨hn, hb⟩ := alloc_row w2 P0.cells pv.cells 34; generalize (w2.alloc (.cells P0.cells 34)).setRow w2.heap.size pv.cells = w3 at hn hb ⊢; (have HNw3 := Lib.hid hn); (have HBw3 := Lib.hid hb); clear hn hb; obtain ⟨x0, x1, x2, x3, x4, x5, x6, x7⟩ := row8 (show w3.heap[w2.heap.size]? = some (.cells #[.string ⟨pv.sc.toArray⟩, .string ⟨pv.au.toArray⟩, .string ⟨pv.pa.toArray⟩, .string ⟨pv.qu.toArray⟩, .string ⟨pv.fr.toArray⟩, .bool pv.ha, .bool pv.hq, .bool pv.hf] 34 (0, 0)) from HNw3.out); obtain ⟨y0, y1, y2, y3, y4, y5, y6, y7⟩ := row8 (show w3.heap[w.heap.size]? = some (.cells #[.string ⟨sc.toArray⟩, .string ⟨au.toArray⟩, .string ⟨pa.toArray⟩, .string ⟨qu.toArray⟩, .string ⟨fr.toArray⟩, .bool xa, .bool xq, .bool xf] 34 (0, 0)) from (by rw [← HPC.out]; exact (HBw3.out.block _ z2).trans R2.out)))
            | (refine wpList_load_row rfl 34 (.tmp 5) rfl w2.heap.size rfl _ pv.cells _ _ HNw3.out Try.underlying34 rfl HI8.out ?_)
            | (refine wpList_load_row rfl 34 (.tmp 1) rfl w.heap.size rfl _ p.cells _ _ ((HBw3.out.block _ z2).trans R2.out) Try.underlying34 rfl HI8.out ?_))
          go_ret2
          exact ⟨by rw [HJ.out, ← HBX.out]; rfl, hb02.trans (HBw3.out.mono hb02.size)⟩
        | false =>
          have hj : rs = ([], 50) := by rw [HJE.out, if_neg (by simp), if_pos rfl, ← hpv, if_neg (by simp [he])]
          have HJ := Lib.hid hj
          rw [he] at heq
          clear hj he hpv
          go_wp2_with (first
            | (refine wpList_store_row rfl 34 _ _ rfl w2.heap.size pv.cells rfl rfl _ _ (heap_alloc_new _ _) HI8.out rfl (Prts.one pv) ?_; change wpList _ _ _ _ _ ((w2.alloc (.cells P0.cells 34)).setRow w2.heap.size pv.cells); obtain ⟨hn, hb⟩ := alloc_row w2 P0.cells pv.cells 34; generalize (w2.alloc (.cells P0.cells 34)).setRow w2.heap.size pv.cells = w3 at hn hb ⊢; (have HNw3 := Lib.hid hn); (have HBw3 := Lib.hid hb); clear hn hb; obtain ⟨x0, x1, x2, x3, x4, x5, x6, x7⟩ := row8 (show w3.heap[w2.heap.size]? = some (.cells #[.string ⟨pv.sc.toArray⟩, .string ⟨pv.au.toArray⟩, .string ⟨pv.pa.toArray⟩, .string ⟨pv.qu.toArray⟩, .string ⟨pv.fr.toArray⟩, .bool pv.ha, .bool pv.hq, .bool pv.hf] 34 (0, 0)) from HNw3.out); obtain ⟨y0, y1, y2, y3, y4, y5, y6, y7⟩ := row8 (show w3.heap[w.heap.size]? = some (.cells #[.string ⟨sc.toArray⟩, .string ⟨au.toArray⟩, .string ⟨pa.toArray⟩, .string ⟨qu.toArray⟩, .string ⟨fr.toArray⟩, .bool xa, .bool xq, .bool xf] 34 (0, 0)) from (by rw [← HPC.out]; exact (HBw3.out.block _ z2).trans R2.out)))
            | (refine wpList_load_row rfl 34 (.tmp 5) rfl w2.heap.size rfl _ pv.cells _ _ HNw3.out Try.underlying34 rfl HI8.out ?_)
            | (refine wpList_load_row rfl 34 (.tmp 1) rfl w.heap.size rfl _ p.cells _ _ ((HBw3.out.block _ z2).trans R2.out) Try.underlying34 rfl HI8.out ?_))
          go_ret2
          exact ⟨by rw [HJ.out]; rfl, hb02.trans (HBw3.out.mono hb02.size)⟩
      · have hj : rs = ([], r) := by rw [HJE.out, if_neg (by simp), if_neg h0]
        have HJ := Lib.hid hj
        have e1 : (r == 0) = false := by rw [beq_eq_false_iff_ne]; exact h0
        have e2 : (r != 0) = true := by rw [bne_iff_ne]; exact h0
        clear hj h0
        go_wp2_with (first
          | (refine wpList_store_row rfl 34 _ _ rfl w2.heap.size pv.cells rfl rfl _ _ (heap_alloc_new _ _) HI8.out rfl (Prts.one pv) ?_; change wpList _ _ _ _ _ ((w2.alloc (.cells P0.cells 34)).setRow w2.heap.size pv.cells); obtain ⟨hn, hb⟩ := alloc_row w2 P0.cells pv.cells 34; generalize (w2.alloc (.cells P0.cells 34)).setRow w2.heap.size pv.cells = w3 at hn hb ⊢; (have HNw3 := Lib.hid hn); (have HBw3 := Lib.hid hb); clear hn hb; obtain ⟨x0, x1, x2, x3, x4, x5, x6, x7⟩ := row8 (show w3.heap[w2.heap.size]? = some (.cells #[.string ⟨pv.sc.toArray⟩, .string ⟨pv.au.toArray⟩, .string ⟨pv.pa.toArray⟩, .string ⟨pv.qu.toArray⟩, .string ⟨pv.fr.toArray⟩, .bool pv.ha, .bool pv.hq, .bool pv.hf] 34 (0, 0)) from HNw3.out); obtain ⟨y0, y1, y2, y3, y4, y5, y6, y7⟩ := row8 (show w3.heap[w.heap.size]? = some (.cells #[.string ⟨sc.toArray⟩, .string ⟨au.toArray⟩, .string ⟨pa.toArray⟩, .string ⟨qu.toArray⟩, .string ⟨fr.toArray⟩, .bool xa, .bool xq, .bool xf] 34 (0, 0)) from (by rw [← HPC.out]; exact (HBw3.out.block _ z2).trans R2.out)))
          | (refine wpList_load_row rfl 34 (.tmp 5) rfl w2.heap.size rfl _ pv.cells _ _ HNw3.out Try.underlying34 rfl HI8.out ?_)
          | (refine wpList_load_row rfl 34 (.tmp 1) rfl w.heap.size rfl _ p.cells _ _ ((HBw3.out.block _ z2).trans R2.out) Try.underlying34 rfl HI8.out ?_))
        go_ret2
        exact ⟨by rw [HJ.out]; rfl, hb02.trans (HBw3.out.mono hb02.size)⟩
end Go.Proofs.Ythdkhlkmcebfeaa
