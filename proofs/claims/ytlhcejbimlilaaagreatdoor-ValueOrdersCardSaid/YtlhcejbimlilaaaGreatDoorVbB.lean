/- VdG VbB, laid as one. -/
import Derived.Test.YtlhcejbimlilaaaGreatDoorVdT
import Derived.Test.YtlhcejbimlilaaaGreatDoorQuL
import Derived.Test.YtlhcejbimlilaaaGreatDoorVbA
set_option linter.unusedVariables false
set_option linter.unusedSimpArgs false
/- The document's order (written by gen_vdg.py). -/
namespace Go.Proofs.YtlhcejbimlilaaaGreatDoor
open Go.RowKit Go.Tk
theorem neg_small {c : Int} (h : c = -1 ∨ c = 0 ∨ c = 1) : IntKind.i64.wrap (-c) = -c := by rcases h with rfl | rfl | rfl <;> decide
theorem cmZ_rng3 (a b : Int) : cmZ a b = -1 ∨ cmZ a b = 0 ∨ cmZ a b = 1 := by
  unfold cmZ
  split
  · exact .inl rfl
  split
  · exact .inr (.inr rfl)
  · exact .inr (.inl rfl)
set_option maxRecDepth 100000 in
set_option maxHeartbeats 8000000 in
theorem rorder_calls (n1 i1 g1 : Bool) (D1 : ByteArray) (p1 : Int) (n2 i2 g2 : Bool) (D2 : ByteArray) (p2 : Int) (w : World) :
    Calls Tryz.prog 40 #[.agg #[.bool n1, .bool i1, .bool g1, .string D1, .int .i64 p1], .agg #[.bool n2, .bool i2, .bool g2, .string D2, .int .i64 p2]] w fun e w' => e = .returned (.int .i64 (orV (nbEq n1 i1 g1 D1 p1 n2 i2 g2 D2 p2) i1 g1 D1.data.toList p1 i2 g2 D2.data.toList p2)) ∧ Below w.heap.size w w' := by
  have heq := fun w => nb_eql n1 i1 g1 D1 p1 n2 i2 g2 D2 p2 w
  have hgd := nb_guarded
  have h1 := fun w => rsign_calls n1 i1 g1 D1 p1 w
  have h2 := fun w => rsign_calls n2 i2 g2 D2 p2 w
  have hp := fun w => rcompare_calls p1 p2 w
  have ht := fun w => rtexts_calls D1 D2 w
  have hO : orV (nbEq n1 i1 g1 D1 p1 n2 i2 g2 D2 p2) i1 g1 D1.data.toList p1 i2 g2 D2.data.toList p2 = if (nbEq n1 i1 g1 D1 p1 n2 i2 g2 D2 p2) = true then 0
      else if sgV g1 i1 D1.data.toList ≠ sgV g2 i2 D2.data.toList then cmZ (sgV g1 i1 D1.data.toList) (sgV g2 i2 D2.data.toList)
      else if (i1 || i2) = true then (if (i1 && g1 || i2 && !g2) = true then -1 else 1)
      else if g1 = true then -(if cmZ p1 p2 = 0 then cmB D1.data.toList D2.data.toList else cmZ p1 p2) else (if cmZ p1 p2 = 0 then cmB D1.data.toList D2.data.toList else cmZ p1 p2) := rfl
  rw [hO]
  clear hO
  have hc := fun w => rcompare_calls (sgV g1 i1 D1.data.toList) (sgV g2 i2 D2.data.toList) w
  obtain ⟨s1, hs1⟩ : ∃ s, s = sgV g1 i1 D1.data.toList := ⟨_, rfl⟩
  obtain ⟨s2, hs2⟩ : ∃ s, s = sgV g2 i2 D2.data.toList := ⟨_, rfl⟩
  rw [← hs1] at h1 hc ⊢
  rw [← hs2] at h2 hc ⊢
  clear hs1 hs2
  have rp := cmZ_rng3 p1 p2
  have rt := cmB_rng D1.data.toList D2.data.toList
  obtain ⟨c, hcc⟩ : ∃ s, s = cmZ s1 s2 := ⟨_, rfl⟩
  obtain ⟨cp, hcp⟩ : ∃ s, s = cmZ p1 p2 := ⟨_, rfl⟩
  obtain ⟨ct, hct⟩ : ∃ s, s = cmB D1.data.toList D2.data.toList := ⟨_, rfl⟩
  obtain ⟨q, hq⟩ : ∃ s, s = nbEq n1 i1 g1 D1 p1 n2 i2 g2 D2 p2 := ⟨_, rfl⟩
  rw [← hcc] at hc ⊢
  rw [← hcp] at hp rp ⊢
  rw [← hct] at ht rt ⊢
  simp only [← hq] at heq ⊢
  clear hcc hcp hct hq
  have kp := neg_small rp
  have kt := neg_small rt
  have H1 := Lib.hid h1
  have H2 := Lib.hid h2
  have HP := Lib.hid hp
  have HT := Lib.hid ht
  have HC := Lib.hid hc
  clear h1 h2 hp ht hc rp rt
  cases q with
  | true =>
    rw [if_pos rfl]
    go_enter Tryz.func40, Tryz.ntmps40
    go_upto_region 1 with fail
    obtain ⟨r1, r2, hb⟩ := box2 w (.cells #[.bool n1, .bool i1, .bool g1, .string D1, .int .i64 p1] 61) (.cells #[.bool n2, .bool i2, .bool g2, .string D2, .int .i64 p2] 61)
    generalize World.alloc (World.alloc w _) _ = w2 at r1 r2 hb ⊢
    have x0 := row_cell r1 0
    have y0 := row_cell r2 0
    have x1 := row_cell r1 1
    have y1 := row_cell r2 1
    have x2 := row_cell r1 2
    have y2 := row_cell r2 2
    have x3 := row_cell r1 3
    have y3 := row_cell r2 3
    have x4 := row_cell r1 4
    have y4 := row_cell r2 4
    simp at x0 x1 x2 x3 x4 y0 y1 y2 y3 y4
    have HR1 := Lib.hid r1
    have HR2 := Lib.hid r2
    clear r1 r2
    go_wp2_with fail
    go_ret
    exact ⟨rfl, hb⟩
  | false =>
    rw [if_neg (by simp)]
    by_cases hs : s1 = s2
    · subst hs
      rw [if_neg (by simp)]
      cases hi : (i1 || i2) with
      | true =>
        rw [if_pos rfl]
        have hi2 : (i1 = true) ∨ (i1 = false ∧ i2 = true) := by revert hi; cases i1 <;> cases i2 <;> simp
        clear hi
        have HI := Lib.hid hi2
        clear hi2 kp kt
        go_enter Tryz.func40, Tryz.ntmps40
        go_upto_region 1 with fail
        obtain ⟨r1, r2, hb⟩ := box2 w (.cells #[.bool n1, .bool i1, .bool g1, .string D1, .int .i64 p1] 61) (.cells #[.bool n2, .bool i2, .bool g2, .string D2, .int .i64 p2] 61)
        generalize World.alloc (World.alloc w _) _ = w2 at r1 r2 hb ⊢
        have x0 := row_cell r1 0
        have y0 := row_cell r2 0
        have x1 := row_cell r1 1
        have y1 := row_cell r2 1
        have x2 := row_cell r1 2
        have y2 := row_cell r2 2
        have x3 := row_cell r1 3
        have y3 := row_cell r2 3
        have x4 := row_cell r1 4
        have y4 := row_cell r2 4
        simp at x0 x1 x2 x3 x4 y0 y1 y2 y3 y4
        have HR1 := Lib.hid r1
        have HR2 := Lib.hid r2
        clear r1 r2
        go_upto_region 3 with fail
        have r1 := HR1.out
        have r2 := HR2.out
        clear x0 x1 x2 x3 x4 y0 y1 y2 y3 y4
        have q1 := Lw.row r1
        have q2 := Lw.row r2
        have x0 := fun x => (row_cell (q1 x) 0)
        have y0 := fun x => (row_cell (q2 x) 0)
        have x1 := fun x => (row_cell (q1 x) 1)
        have y1 := fun x => (row_cell (q2 x) 1)
        have x2 := fun x => (row_cell (q1 x) 2)
        have y2 := fun x => (row_cell (q2 x) 2)
        have x3 := fun x => (row_cell (q1 x) 3)
        have y3 := fun x => (row_cell (q2 x) 3)
        have x4 := fun x => (row_cell (q1 x) 4)
        have y4 := fun x => (row_cell (q2 x) 4)
        simp at x0 x1 x2 x3 x4 y0 y1 y2 y3 y4
        clear q1 q2
        clear r1 r2
        refine wp_region_lw (by kernel_rfl) (by kernel_rfl) ?_
        repeat (go_big_quiet_step (first | exact rfl | (go_at_call 88; (first | with_reducible exact lw_call (H1.out _) | with_reducible exact lw_call (H2.out _)))))
        refine wpQuiet_nil ?_
        rintro ⟨w3, hbx⟩
        dsimp only
        clear x0 x1 x2 x3 x4 y0 y1 y2 y3 y4
        replace HR1 := Lib.hid ((hbx.block _ (lt_of_block HR1.out)).trans HR1.out)
        replace HR2 := Lib.hid ((hbx.block _ (lt_of_block HR2.out)).trans HR2.out)
        replace hb := hb.trans (hbx.mono hb.size)
        clear hbx
        have r1 := HR1.out
        have r2 := HR2.out
        have x0 := row_cell r1 0
        have y0 := row_cell r2 0
        have x1 := row_cell r1 1
        have y1 := row_cell r2 1
        have x2 := row_cell r1 2
        have y2 := row_cell r2 2
        have x3 := row_cell r1 3
        have y3 := row_cell r2 3
        have x4 := row_cell r1 4
        have y4 := row_cell r2 4
        simp at x0 x1 x2 x3 x4 y0 y1 y2 y3 y4
        clear r1 r2
        rcases HI.out with rfl | ⟨rfl, rfl⟩
        · clear HI
          cases g1 <;> cases i2 <;> cases g2 <;> (go_wp2_with fail; go_ret; exact ⟨rfl, hb⟩)
        · clear HI
          cases g1 <;> cases g2 <;> (go_wp2_with fail; go_ret; exact ⟨rfl, hb⟩)
      | false =>
        rw [if_neg (by simp)]
        have hi1 : i1 = false := by revert hi; cases i1 <;> simp
        have hi2 : i2 = false := by revert hi; cases i2 <;> simp
        subst hi1 hi2
        clear hi
        by_cases hz : cp = 0
        · rw [if_pos hz]
          subst hz
          clear kp
          go_enter Tryz.func40, Tryz.ntmps40
          go_upto_region 1 with fail
          obtain ⟨r1, r2, hb⟩ := box2 w (.cells #[.bool n1, .bool false, .bool g1, .string D1, .int .i64 p1] 61) (.cells #[.bool n2, .bool false, .bool g2, .string D2, .int .i64 p2] 61)
          generalize World.alloc (World.alloc w _) _ = w2 at r1 r2 hb ⊢
          have x0 := row_cell r1 0
          have y0 := row_cell r2 0
          have x1 := row_cell r1 1
          have y1 := row_cell r2 1
          have x2 := row_cell r1 2
          have y2 := row_cell r2 2
          have x3 := row_cell r1 3
          have y3 := row_cell r2 3
          have x4 := row_cell r1 4
          have y4 := row_cell r2 4
          simp at x0 x1 x2 x3 x4 y0 y1 y2 y3 y4
          have HR1 := Lib.hid r1
          have HR2 := Lib.hid r2
          clear r1 r2
          go_upto_region 3 with fail
          have r1 := HR1.out
          have r2 := HR2.out
          clear x0 x1 x2 x3 x4 y0 y1 y2 y3 y4
          have q1 := Lw.row r1
          have q2 := Lw.row r2
          have x0 := fun x => (row_cell (q1 x) 0)
          have y0 := fun x => (row_cell (q2 x) 0)
          have x1 := fun x => (row_cell (q1 x) 1)
          have y1 := fun x => (row_cell (q2 x) 1)
          have x2 := fun x => (row_cell (q1 x) 2)
          have y2 := fun x => (row_cell (q2 x) 2)
          have x3 := fun x => (row_cell (q1 x) 3)
          have y3 := fun x => (row_cell (q2 x) 3)
          have x4 := fun x => (row_cell (q1 x) 4)
          have y4 := fun x => (row_cell (q2 x) 4)
          simp at x0 x1 x2 x3 x4 y0 y1 y2 y3 y4
          clear q1 q2
          clear r1 r2
          refine wp_region_lw (by kernel_rfl) (by kernel_rfl) ?_
          repeat (go_big_quiet_step (first | exact rfl | (go_at_call 88; (first | with_reducible exact lw_call (H1.out _) | with_reducible exact lw_call (H2.out _)))))
          refine wpQuiet_nil ?_
          rintro ⟨w3, hbx⟩
          dsimp only
          clear x0 x1 x2 x3 x4 y0 y1 y2 y3 y4
          replace HR1 := Lib.hid ((hbx.block _ (lt_of_block HR1.out)).trans HR1.out)
          replace HR2 := Lib.hid ((hbx.block _ (lt_of_block HR2.out)).trans HR2.out)
          replace hb := hb.trans (hbx.mono hb.size)
          clear hbx
          have r1 := HR1.out
          have r2 := HR2.out
          have x0 := row_cell r1 0
          have y0 := row_cell r2 0
          have x1 := row_cell r1 1
          have y1 := row_cell r2 1
          have x2 := row_cell r1 2
          have y2 := row_cell r2 2
          have x3 := row_cell r1 3
          have y3 := row_cell r2 3
          have x4 := row_cell r1 4
          have y4 := row_cell r2 4
          simp at x0 x1 x2 x3 x4 y0 y1 y2 y3 y4
          clear r1 r2
          cases g1 <;> (go_wp2_with (first | (go_at_call 89; (with_reducible refine (HP.out _).mono ?_); rintro e' w' ⟨rfl, rfl⟩) | (go_at_call 41; (with_reducible refine (HT.out _).mono ?_); rintro e' w' ⟨rfl, rfl⟩)); go_ret; exact ⟨rfl, hb⟩)
        · rw [if_neg hz]
          have hzb : (cp == 0) = false := beq_false_of_ne hz
          clear kt
          go_enter Tryz.func40, Tryz.ntmps40
          go_upto_region 1 with fail
          obtain ⟨r1, r2, hb⟩ := box2 w (.cells #[.bool n1, .bool false, .bool g1, .string D1, .int .i64 p1] 61) (.cells #[.bool n2, .bool false, .bool g2, .string D2, .int .i64 p2] 61)
          generalize World.alloc (World.alloc w _) _ = w2 at r1 r2 hb ⊢
          have x0 := row_cell r1 0
          have y0 := row_cell r2 0
          have x1 := row_cell r1 1
          have y1 := row_cell r2 1
          have x2 := row_cell r1 2
          have y2 := row_cell r2 2
          have x3 := row_cell r1 3
          have y3 := row_cell r2 3
          have x4 := row_cell r1 4
          have y4 := row_cell r2 4
          simp at x0 x1 x2 x3 x4 y0 y1 y2 y3 y4
          have HR1 := Lib.hid r1
          have HR2 := Lib.hid r2
          clear r1 r2
          go_upto_region 3 with fail
          have r1 := HR1.out
          have r2 := HR2.out
          clear x0 x1 x2 x3 x4 y0 y1 y2 y3 y4
          have q1 := Lw.row r1
          have q2 := Lw.row r2
          have x0 := fun x => (row_cell (q1 x) 0)
          have y0 := fun x => (row_cell (q2 x) 0)
          have x1 := fun x => (row_cell (q1 x) 1)
          have y1 := fun x => (row_cell (q2 x) 1)
          have x2 := fun x => (row_cell (q1 x) 2)
          have y2 := fun x => (row_cell (q2 x) 2)
          have x3 := fun x => (row_cell (q1 x) 3)
          have y3 := fun x => (row_cell (q2 x) 3)
          have x4 := fun x => (row_cell (q1 x) 4)
          have y4 := fun x => (row_cell (q2 x) 4)
          simp at x0 x1 x2 x3 x4 y0 y1 y2 y3 y4
          clear q1 q2
          clear r1 r2
          refine wp_region_lw (by kernel_rfl) (by kernel_rfl) ?_
          repeat (go_big_quiet_step (first | exact rfl | (go_at_call 88; (first | with_reducible exact lw_call (H1.out _) | with_reducible exact lw_call (H2.out _)))))
          refine wpQuiet_nil ?_
          rintro ⟨w3, hbx⟩
          dsimp only
          clear x0 x1 x2 x3 x4 y0 y1 y2 y3 y4
          replace HR1 := Lib.hid ((hbx.block _ (lt_of_block HR1.out)).trans HR1.out)
          replace HR2 := Lib.hid ((hbx.block _ (lt_of_block HR2.out)).trans HR2.out)
          replace hb := hb.trans (hbx.mono hb.size)
          clear hbx
          have r1 := HR1.out
          have r2 := HR2.out
          have x0 := row_cell r1 0
          have y0 := row_cell r2 0
          have x1 := row_cell r1 1
          have y1 := row_cell r2 1
          have x2 := row_cell r1 2
          have y2 := row_cell r2 2
          have x3 := row_cell r1 3
          have y3 := row_cell r2 3
          have x4 := row_cell r1 4
          have y4 := row_cell r2 4
          simp at x0 x1 x2 x3 x4 y0 y1 y2 y3 y4
          clear r1 r2
          cases g1 <;> (go_wp2_with (first | (go_at_call 89; (with_reducible refine (HP.out _).mono ?_); rintro e' w' ⟨rfl, rfl⟩) | (go_at_call 41; (with_reducible refine (HT.out _).mono ?_); rintro e' w' ⟨rfl, rfl⟩)); go_ret; exact ⟨rfl, hb⟩)
    · rw [if_pos hs]
      have hsb : (s1 != s2) = true := bne_iff_ne.2 hs
      clear hs kp kt
      go_enter Tryz.func40, Tryz.ntmps40
      go_upto_region 1 with fail
      obtain ⟨r1, r2, hb⟩ := box2 w (.cells #[.bool n1, .bool i1, .bool g1, .string D1, .int .i64 p1] 61) (.cells #[.bool n2, .bool i2, .bool g2, .string D2, .int .i64 p2] 61)
      generalize World.alloc (World.alloc w _) _ = w2 at r1 r2 hb ⊢
      have x0 := row_cell r1 0
      have y0 := row_cell r2 0
      have x1 := row_cell r1 1
      have y1 := row_cell r2 1
      have x2 := row_cell r1 2
      have y2 := row_cell r2 2
      have x3 := row_cell r1 3
      have y3 := row_cell r2 3
      have x4 := row_cell r1 4
      have y4 := row_cell r2 4
      simp at x0 x1 x2 x3 x4 y0 y1 y2 y3 y4
      have HR1 := Lib.hid r1
      have HR2 := Lib.hid r2
      clear r1 r2
      go_upto_region 3 with fail
      have r1 := HR1.out
      have r2 := HR2.out
      clear x0 x1 x2 x3 x4 y0 y1 y2 y3 y4
      have q1 := Lw.row r1
      have q2 := Lw.row r2
      have x0 := fun x => (row_cell (q1 x) 0)
      have y0 := fun x => (row_cell (q2 x) 0)
      have x1 := fun x => (row_cell (q1 x) 1)
      have y1 := fun x => (row_cell (q2 x) 1)
      have x2 := fun x => (row_cell (q1 x) 2)
      have y2 := fun x => (row_cell (q2 x) 2)
      have x3 := fun x => (row_cell (q1 x) 3)
      have y3 := fun x => (row_cell (q2 x) 3)
      have x4 := fun x => (row_cell (q1 x) 4)
      have y4 := fun x => (row_cell (q2 x) 4)
      simp at x0 x1 x2 x3 x4 y0 y1 y2 y3 y4
      clear q1 q2
      clear r1 r2
      refine wp_region_lw (by kernel_rfl) (by kernel_rfl) ?_
      repeat (go_big_quiet_step (first | exact rfl | (go_at_call 88; (first | with_reducible exact lw_call (H1.out _) | with_reducible exact lw_call (H2.out _)))))
      refine wpQuiet_nil ?_
      rintro ⟨w3, hbx⟩
      dsimp only
      clear x0 x1 x2 x3 x4 y0 y1 y2 y3 y4
      replace HR1 := Lib.hid ((hbx.block _ (lt_of_block HR1.out)).trans HR1.out)
      replace HR2 := Lib.hid ((hbx.block _ (lt_of_block HR2.out)).trans HR2.out)
      replace hb := hb.trans (hbx.mono hb.size)
      clear hbx
      have r1 := HR1.out
      have r2 := HR2.out
      have x0 := row_cell r1 0
      have y0 := row_cell r2 0
      have x1 := row_cell r1 1
      have y1 := row_cell r2 1
      have x2 := row_cell r1 2
      have y2 := row_cell r2 2
      have x3 := row_cell r1 3
      have y3 := row_cell r2 3
      have x4 := row_cell r1 4
      have y4 := row_cell r2 4
      simp at x0 x1 x2 x3 x4 y0 y1 y2 y3 y4
      clear r1 r2
      go_upto_region 4 with fail
      have r1 := HR1.out
      have r2 := HR2.out
      clear x0 x1 x2 x3 x4 y0 y1 y2 y3 y4
      have q1 := Lw.row r1
      have q2 := Lw.row r2
      have x0 := fun x => (row_cell (q1 x) 0)
      have y0 := fun x => (row_cell (q2 x) 0)
      have x1 := fun x => (row_cell (q1 x) 1)
      have y1 := fun x => (row_cell (q2 x) 1)
      have x2 := fun x => (row_cell (q1 x) 2)
      have y2 := fun x => (row_cell (q2 x) 2)
      have x3 := fun x => (row_cell (q1 x) 3)
      have y3 := fun x => (row_cell (q2 x) 3)
      have x4 := fun x => (row_cell (q1 x) 4)
      have y4 := fun x => (row_cell (q2 x) 4)
      simp at x0 x1 x2 x3 x4 y0 y1 y2 y3 y4
      clear q1 q2
      clear r1 r2
      refine wp_region_lw (by kernel_rfl) (by kernel_rfl) ?_
      repeat (go_big_quiet_step (first | exact rfl | (go_at_call 88; (first | with_reducible exact lw_call (H1.out _) | with_reducible exact lw_call (H2.out _))) | (go_at_call 89; with_reducible exact lw_same (HC.out _))))
      refine wpQuiet_nil ?_
      rintro ⟨w4, hbx⟩
      dsimp only
      clear x0 x1 x2 x3 x4 y0 y1 y2 y3 y4
      replace HR1 := Lib.hid ((hbx.block _ (lt_of_block HR1.out)).trans HR1.out)
      replace HR2 := Lib.hid ((hbx.block _ (lt_of_block HR2.out)).trans HR2.out)
      replace hb := hb.trans (hbx.mono hb.size)
      clear hbx
      have r1 := HR1.out
      have r2 := HR2.out
      have x0 := row_cell r1 0
      have y0 := row_cell r2 0
      have x1 := row_cell r1 1
      have y1 := row_cell r2 1
      have x2 := row_cell r1 2
      have y2 := row_cell r2 2
      have x3 := row_cell r1 3
      have y3 := row_cell r2 3
      have x4 := row_cell r1 4
      have y4 := row_cell r2 4
      simp at x0 x1 x2 x3 x4 y0 y1 y2 y3 y4
      clear r1 r2
      go_wp2_with fail
      go_ret
      exact ⟨rfl, hb⟩
end Go.Proofs.YtlhcejbimlilaaaGreatDoor
/- The program's within; the closures of find; find (written by gen_vb1.py). -/
namespace Go.Tk
open Go Go.RowKit
def inN (l : List UInt8) : Nm := (intP l).getD nmZ
def witP (s lo hi : List UInt8) : Bool := match intP s with
  | none => false
  | some n => (decide (lo = []) || decide (0 ≤ (agN n (inN lo)).1)) && (decide (hi = []) || decide ((agN n (inN hi)).1 ≤ 0))
theorem Res1.alloc {T : TypeId} {z : Array Value} {w x : World} (h : Res1 T z w x) (o : Obj) : Res1 T z w (x.alloc o) := h.next ((Below.refl _ _).alloc (Nat.le_refl _) _)
end Go.Tk
namespace Go.Proofs.YtlhcejbimlilaaaGreatDoor
open Go.RowKit Go.Tk
theorem inN_inf (l : List UInt8) : -1 ≤ (inN l).inf ∧ (inN l).inf ≤ 1 := by
  unfold inN
  cases h : intP l with
  | none => simp [nmZ]
  | some n => have := intP_bd h; simp only [Option.getD_some]; omega
set_option maxHeartbeats 4000000 in
theorem within_calls (s lo hi : ByteArray) (w : World) (hs : s.size ≤ 65536) (hl : lo.size ≤ 100) (hh : hi.size ≤ 100) :
    Calls Tryz.prog 67 #[.string s, .string lo, .string hi] w fun e w' => e = .returned (.bool (witP s.data.toList lo.data.toList hi.data.toList)) ∧ Below w.heap.size w w' := by
  have h1 := fun w => integer_calls s w (by omega)
  have h2 := fun w => integer_calls lo w (by omega)
  have h3 := fun w => integer_calls hi w (by omega)
  have hw : witP s.data.toList lo.data.toList hi.data.toList = match intP s.data.toList with
    | none => false
    | some n => (decide (lo.data.toList = []) || decide (0 ≤ (agN n (inN lo.data.toList)).1)) && (decide (hi.data.toList = []) || decide ((agN n (inN hi.data.toList)).1 ≤ 0)) := rfl
  rw [hw]
  clear hw
  cases ho : intP s.data.toList with
  | none =>
    rw [ho] at h1
    have h1 : ∀ w, Calls Tryz.prog 105 #[.string s] w fun e w' => e = .returned (.tuple #[.agg #[.bool false, .string ⟨#[]⟩, .int .i64 0, .int .i64 0, .bool false], .bool false]) ∧ Below w.heap.size w w' := h1
    have HS := Lib.hid h1
    clear h1 h2 h3 ho
    dsimp only
    go_enter Tryz.func67, Tryz.ntmps67
    go_wp2_with (first | (go_at_call 105; (with_reducible refine (HS.out _).mono ?_); rintro e w1 ⟨rfl, hb1⟩))
    go_ret
    exact ⟨rfl, hb1.trans ((Below.refl _ _).alloc hb1.size _)⟩
  | some n =>
  rw [ho] at h1
  have h1 : ∀ w, Calls Tryz.prog 105 #[.string s] w fun e w' => e = .returned (.tuple #[n.val, .bool true]) ∧ Below w.heap.size w w' := h1
  have hni := (intP_bd ho).2.1
  have hal := fun w => against_calls n (inN lo.data.toList) w (by omega) (inN_inf _)
  have hah := fun w => against_calls n (inN hi.data.toList) w (by omega) (inN_inf _)
  dsimp only
  have h2 : ∀ w, Calls Tryz.prog 105 #[.string lo] w fun e w' => e = .returned (.tuple #[(inN lo.data.toList).val, .bool (intP lo.data.toList).isSome]) ∧ Below w.heap.size w w' := h2
  have h3 : ∀ w, Calls Tryz.prog 105 #[.string hi] w fun e w' => e = .returned (.tuple #[(inN hi.data.toList).val, .bool (intP hi.data.toList).isSome]) ∧ Below w.heap.size w w' := h3
  obtain ⟨c1, hc1⟩ : ∃ c, c = (agN n (inN lo.data.toList)).1 := ⟨_, rfl⟩
  obtain ⟨k1, hk1⟩ : ∃ c, c = (agN n (inN lo.data.toList)).2 := ⟨_, rfl⟩
  obtain ⟨c2, hc2⟩ : ∃ c, c = (agN n (inN hi.data.toList)).1 := ⟨_, rfl⟩
  obtain ⟨k2, hk2⟩ : ∃ c, c = (agN n (inN hi.data.toList)).2 := ⟨_, rfl⟩
  rw [← hc1, ← hk1] at hal
  rw [← hc2, ← hk2] at hah
  rw [← hc1, ← hc2]
  clear hc1 hk1 hc2 hk2 ho hni
  have el : (lo.toList == []) = decide (lo.data.toList = []) := by rw [Lib.toList_data]; cases lo.data.toList <;> simp
  have eh : (hi.toList == []) = decide (hi.data.toList = []) := by rw [Lib.toList_data]; cases hi.data.toList <;> simp
  obtain ⟨dl, hdl⟩ : ∃ d, d = decide (lo.data.toList = []) := ⟨_, rfl⟩
  obtain ⟨dh, hdh⟩ : ∃ d, d = decide (hi.data.toList = []) := ⟨_, rfl⟩
  rw [← hdl] at el ⊢
  rw [← hdh] at eh ⊢
  obtain ⟨il, hil⟩ : ∃ d, d = (intP lo.data.toList).isSome := ⟨_, rfl⟩
  obtain ⟨ih, hih⟩ : ∃ d, d = (intP hi.data.toList).isSome := ⟨_, rfl⟩
  rw [← hil] at h2
  rw [← hih] at h3
  obtain ⟨⟨lb, ld, lp, li, ln⟩, hL⟩ : ∃ l, l = inN lo.data.toList := ⟨_, rfl⟩
  obtain ⟨⟨hb, hd, hp, hi', hn⟩, hH⟩ : ∃ l, l = inN hi.data.toList := ⟨_, rfl⟩
  rw [← hL] at h2 hal
  rw [← hH] at h3 hah
  obtain ⟨nb, nd, np, ni, nn⟩ := n
  unfold Nm.val at h1 h2 h3 hal hah
  dsimp only at h1 h2 h3 hal hah
  have HS := Lib.hid h1
  have HL := Lib.hid h2
  have HH := Lib.hid h3
  have HAL := Lib.hid hal
  have HAH := Lib.hid hah
  clear h1 h2 h3 hal hah hL hH hdl hdh hil hih
  cases dl with
  | true =>
    cases dh with
    | true =>
      show Calls _ _ _ _ fun e w' => e = .returned (.bool true) ∧ _
      go_enter Tryz.func67, Tryz.ntmps67
      go_wp2_with (first | (go_at_call 105; (with_reducible refine (HS.out _).mono ?_); rintro e w1 ⟨rfl, hb1⟩))
      go_ret
      exact ⟨rfl, hb1.trans ((Below.refl _ _).alloc hb1.size _)⟩
    | false =>
      by_cases g2 : 0 < c2
      · rw [decide_eq_false (show ¬ c2 ≤ 0 by omega)]
        show Calls _ _ _ _ fun e w' => e = .returned (.bool false) ∧ _
        go_enter Tryz.func67, Tryz.ntmps67
        go_wp2_with (first | (go_at_call 105; (with_reducible refine (HS.out _).mono ?_); rintro e w1 ⟨rfl, hb1⟩) | (go_at_call 105; (with_reducible refine (HH.out _).mono ?_); rintro e w5 ⟨rfl, hb5⟩; (have R5 := (Res1.start 55 #[.bool nb, .string ⟨nd.toArray⟩, .int .i64 np, .int .i64 ni, .bool nn] w1).next hb5); (have l5 := R5.lt); (have c50 : w5.cell? ⟨w1.heap.size, 0, none⟩ = some (.bool nb) := R5.cell 0); (have c51 : w5.cell? ⟨w1.heap.size, 1, none⟩ = some (.string ⟨nd.toArray⟩) := R5.cell 1); (have c52 : w5.cell? ⟨w1.heap.size, 2, none⟩ = some (.int .i64 np) := R5.cell 2); (have c53 : w5.cell? ⟨w1.heap.size, 3, none⟩ = some (.int .i64 ni) := R5.cell 3); (have c54 : w5.cell? ⟨w1.heap.size, 4, none⟩ = some (.bool nn) := R5.cell 4)) | (go_at_call 30; (with_reducible refine (HAH.out _).mono ?_); rintro e w6 ⟨rfl, hb6⟩; (have R6 := (R5.alloc _).next hb6); (have l6 := R6.lt); (have c60 : w6.cell? ⟨w1.heap.size, 0, none⟩ = some (.bool nb) := R6.cell 0); (have c61 : w6.cell? ⟨w1.heap.size, 1, none⟩ = some (.string ⟨nd.toArray⟩) := R6.cell 1); (have c62 : w6.cell? ⟨w1.heap.size, 2, none⟩ = some (.int .i64 np) := R6.cell 2); (have c63 : w6.cell? ⟨w1.heap.size, 3, none⟩ = some (.int .i64 ni) := R6.cell 3); (have c64 : w6.cell? ⟨w1.heap.size, 4, none⟩ = some (.bool nn) := R6.cell 4)))
        go_ret
        exact ⟨rfl, hb1.trans (R6.below.mono hb1.size)⟩
      · rw [decide_eq_true (show c2 ≤ 0 by omega)]
        show Calls _ _ _ _ fun e w' => e = .returned (.bool true) ∧ _
        have g2' : c2 ≤ 0 := by omega
        clear g2
        go_enter Tryz.func67, Tryz.ntmps67
        go_wp2_with (first | (go_at_call 105; (with_reducible refine (HS.out _).mono ?_); rintro e w1 ⟨rfl, hb1⟩) | (go_at_call 105; (with_reducible refine (HH.out _).mono ?_); rintro e w5 ⟨rfl, hb5⟩; (have R5 := (Res1.start 55 #[.bool nb, .string ⟨nd.toArray⟩, .int .i64 np, .int .i64 ni, .bool nn] w1).next hb5); (have l5 := R5.lt); (have c50 : w5.cell? ⟨w1.heap.size, 0, none⟩ = some (.bool nb) := R5.cell 0); (have c51 : w5.cell? ⟨w1.heap.size, 1, none⟩ = some (.string ⟨nd.toArray⟩) := R5.cell 1); (have c52 : w5.cell? ⟨w1.heap.size, 2, none⟩ = some (.int .i64 np) := R5.cell 2); (have c53 : w5.cell? ⟨w1.heap.size, 3, none⟩ = some (.int .i64 ni) := R5.cell 3); (have c54 : w5.cell? ⟨w1.heap.size, 4, none⟩ = some (.bool nn) := R5.cell 4)) | (go_at_call 30; (with_reducible refine (HAH.out _).mono ?_); rintro e w6 ⟨rfl, hb6⟩; (have R6 := (R5.alloc _).next hb6); (have l6 := R6.lt); (have c60 : w6.cell? ⟨w1.heap.size, 0, none⟩ = some (.bool nb) := R6.cell 0); (have c61 : w6.cell? ⟨w1.heap.size, 1, none⟩ = some (.string ⟨nd.toArray⟩) := R6.cell 1); (have c62 : w6.cell? ⟨w1.heap.size, 2, none⟩ = some (.int .i64 np) := R6.cell 2); (have c63 : w6.cell? ⟨w1.heap.size, 3, none⟩ = some (.int .i64 ni) := R6.cell 3); (have c64 : w6.cell? ⟨w1.heap.size, 4, none⟩ = some (.bool nn) := R6.cell 4)))
        go_ret
        exact ⟨rfl, hb1.trans (R6.below.mono hb1.size)⟩
  | false =>
    by_cases g1 : c1 < 0
    · rw [decide_eq_false (show ¬ 0 ≤ c1 by omega)]
      show Calls _ _ _ _ fun e w' => e = .returned (.bool false) ∧ _
      go_enter Tryz.func67, Tryz.ntmps67
      go_wp2_with (first | (go_at_call 105; (with_reducible refine (HS.out _).mono ?_); rintro e w1 ⟨rfl, hb1⟩) | (go_at_call 105; (with_reducible refine (HL.out _).mono ?_); rintro e w3 ⟨rfl, hb3⟩; (have R3 := (Res1.start 55 #[.bool nb, .string ⟨nd.toArray⟩, .int .i64 np, .int .i64 ni, .bool nn] w1).next hb3); (have l3 := R3.lt); (have c30 : w3.cell? ⟨w1.heap.size, 0, none⟩ = some (.bool nb) := R3.cell 0); (have c31 : w3.cell? ⟨w1.heap.size, 1, none⟩ = some (.string ⟨nd.toArray⟩) := R3.cell 1); (have c32 : w3.cell? ⟨w1.heap.size, 2, none⟩ = some (.int .i64 np) := R3.cell 2); (have c33 : w3.cell? ⟨w1.heap.size, 3, none⟩ = some (.int .i64 ni) := R3.cell 3); (have c34 : w3.cell? ⟨w1.heap.size, 4, none⟩ = some (.bool nn) := R3.cell 4)) | (go_at_call 30; (with_reducible refine (HAL.out _).mono ?_); rintro e w4 ⟨rfl, hb4⟩; (have R4 := (R3.alloc _).next hb4); (have l4 := R4.lt); (have c40 : w4.cell? ⟨w1.heap.size, 0, none⟩ = some (.bool nb) := R4.cell 0); (have c41 : w4.cell? ⟨w1.heap.size, 1, none⟩ = some (.string ⟨nd.toArray⟩) := R4.cell 1); (have c42 : w4.cell? ⟨w1.heap.size, 2, none⟩ = some (.int .i64 np) := R4.cell 2); (have c43 : w4.cell? ⟨w1.heap.size, 3, none⟩ = some (.int .i64 ni) := R4.cell 3); (have c44 : w4.cell? ⟨w1.heap.size, 4, none⟩ = some (.bool nn) := R4.cell 4)))
      go_ret
      exact ⟨rfl, hb1.trans (R4.below.mono hb1.size)⟩
    · rw [decide_eq_true (show 0 ≤ c1 by omega)]
      have g1' : 0 ≤ c1 := by omega
      clear g1
      cases dh with
      | true =>
        show Calls _ _ _ _ fun e w' => e = .returned (.bool true) ∧ _
        go_enter Tryz.func67, Tryz.ntmps67
        go_wp2_with (first | (go_at_call 105; (with_reducible refine (HS.out _).mono ?_); rintro e w1 ⟨rfl, hb1⟩) | (go_at_call 105; (with_reducible refine (HL.out _).mono ?_); rintro e w3 ⟨rfl, hb3⟩; (have R3 := (Res1.start 55 #[.bool nb, .string ⟨nd.toArray⟩, .int .i64 np, .int .i64 ni, .bool nn] w1).next hb3); (have l3 := R3.lt); (have c30 : w3.cell? ⟨w1.heap.size, 0, none⟩ = some (.bool nb) := R3.cell 0); (have c31 : w3.cell? ⟨w1.heap.size, 1, none⟩ = some (.string ⟨nd.toArray⟩) := R3.cell 1); (have c32 : w3.cell? ⟨w1.heap.size, 2, none⟩ = some (.int .i64 np) := R3.cell 2); (have c33 : w3.cell? ⟨w1.heap.size, 3, none⟩ = some (.int .i64 ni) := R3.cell 3); (have c34 : w3.cell? ⟨w1.heap.size, 4, none⟩ = some (.bool nn) := R3.cell 4)) | (go_at_call 30; (with_reducible refine (HAL.out _).mono ?_); rintro e w4 ⟨rfl, hb4⟩; (have R4 := (R3.alloc _).next hb4); (have l4 := R4.lt); (have c40 : w4.cell? ⟨w1.heap.size, 0, none⟩ = some (.bool nb) := R4.cell 0); (have c41 : w4.cell? ⟨w1.heap.size, 1, none⟩ = some (.string ⟨nd.toArray⟩) := R4.cell 1); (have c42 : w4.cell? ⟨w1.heap.size, 2, none⟩ = some (.int .i64 np) := R4.cell 2); (have c43 : w4.cell? ⟨w1.heap.size, 3, none⟩ = some (.int .i64 ni) := R4.cell 3); (have c44 : w4.cell? ⟨w1.heap.size, 4, none⟩ = some (.bool nn) := R4.cell 4)))
        go_ret
        exact ⟨rfl, hb1.trans (R4.below.mono hb1.size)⟩
      | false =>
        by_cases g2 : 0 < c2
        · rw [decide_eq_false (show ¬ c2 ≤ 0 by omega)]
          show Calls _ _ _ _ fun e w' => e = .returned (.bool false) ∧ _
          go_enter Tryz.func67, Tryz.ntmps67
          go_wp2_with (first | (go_at_call 105; (with_reducible refine (HS.out _).mono ?_); rintro e w1 ⟨rfl, hb1⟩) | (go_at_call 105; (with_reducible refine (HL.out _).mono ?_); rintro e w3 ⟨rfl, hb3⟩; (have R3 := (Res1.start 55 #[.bool nb, .string ⟨nd.toArray⟩, .int .i64 np, .int .i64 ni, .bool nn] w1).next hb3); (have l3 := R3.lt); (have c30 : w3.cell? ⟨w1.heap.size, 0, none⟩ = some (.bool nb) := R3.cell 0); (have c31 : w3.cell? ⟨w1.heap.size, 1, none⟩ = some (.string ⟨nd.toArray⟩) := R3.cell 1); (have c32 : w3.cell? ⟨w1.heap.size, 2, none⟩ = some (.int .i64 np) := R3.cell 2); (have c33 : w3.cell? ⟨w1.heap.size, 3, none⟩ = some (.int .i64 ni) := R3.cell 3); (have c34 : w3.cell? ⟨w1.heap.size, 4, none⟩ = some (.bool nn) := R3.cell 4)) | (go_at_call 30; (with_reducible refine (HAL.out _).mono ?_); rintro e w4 ⟨rfl, hb4⟩; (have R4 := (R3.alloc _).next hb4); (have l4 := R4.lt); (have c40 : w4.cell? ⟨w1.heap.size, 0, none⟩ = some (.bool nb) := R4.cell 0); (have c41 : w4.cell? ⟨w1.heap.size, 1, none⟩ = some (.string ⟨nd.toArray⟩) := R4.cell 1); (have c42 : w4.cell? ⟨w1.heap.size, 2, none⟩ = some (.int .i64 np) := R4.cell 2); (have c43 : w4.cell? ⟨w1.heap.size, 3, none⟩ = some (.int .i64 ni) := R4.cell 3); (have c44 : w4.cell? ⟨w1.heap.size, 4, none⟩ = some (.bool nn) := R4.cell 4)) | (go_at_call 105; (with_reducible refine (HH.out _).mono ?_); rintro e w5 ⟨rfl, hb5⟩; (have R5 := (R4).next hb5); (have l5 := R5.lt); (have c50 : w5.cell? ⟨w1.heap.size, 0, none⟩ = some (.bool nb) := R5.cell 0); (have c51 : w5.cell? ⟨w1.heap.size, 1, none⟩ = some (.string ⟨nd.toArray⟩) := R5.cell 1); (have c52 : w5.cell? ⟨w1.heap.size, 2, none⟩ = some (.int .i64 np) := R5.cell 2); (have c53 : w5.cell? ⟨w1.heap.size, 3, none⟩ = some (.int .i64 ni) := R5.cell 3); (have c54 : w5.cell? ⟨w1.heap.size, 4, none⟩ = some (.bool nn) := R5.cell 4)) | (go_at_call 30; (with_reducible refine (HAH.out _).mono ?_); rintro e w6 ⟨rfl, hb6⟩; (have R6 := (R5.alloc _).next hb6); (have l6 := R6.lt); (have c60 : w6.cell? ⟨w1.heap.size, 0, none⟩ = some (.bool nb) := R6.cell 0); (have c61 : w6.cell? ⟨w1.heap.size, 1, none⟩ = some (.string ⟨nd.toArray⟩) := R6.cell 1); (have c62 : w6.cell? ⟨w1.heap.size, 2, none⟩ = some (.int .i64 np) := R6.cell 2); (have c63 : w6.cell? ⟨w1.heap.size, 3, none⟩ = some (.int .i64 ni) := R6.cell 3); (have c64 : w6.cell? ⟨w1.heap.size, 4, none⟩ = some (.bool nn) := R6.cell 4)))
          go_ret
          exact ⟨rfl, hb1.trans (R6.below.mono hb1.size)⟩
        · rw [decide_eq_true (show c2 ≤ 0 by omega)]
          show Calls _ _ _ _ fun e w' => e = .returned (.bool true) ∧ _
          have g2' : c2 ≤ 0 := by omega
          clear g2
          go_enter Tryz.func67, Tryz.ntmps67
          go_wp2_with (first | (go_at_call 105; (with_reducible refine (HS.out _).mono ?_); rintro e w1 ⟨rfl, hb1⟩) | (go_at_call 105; (with_reducible refine (HL.out _).mono ?_); rintro e w3 ⟨rfl, hb3⟩; (have R3 := (Res1.start 55 #[.bool nb, .string ⟨nd.toArray⟩, .int .i64 np, .int .i64 ni, .bool nn] w1).next hb3); (have l3 := R3.lt); (have c30 : w3.cell? ⟨w1.heap.size, 0, none⟩ = some (.bool nb) := R3.cell 0); (have c31 : w3.cell? ⟨w1.heap.size, 1, none⟩ = some (.string ⟨nd.toArray⟩) := R3.cell 1); (have c32 : w3.cell? ⟨w1.heap.size, 2, none⟩ = some (.int .i64 np) := R3.cell 2); (have c33 : w3.cell? ⟨w1.heap.size, 3, none⟩ = some (.int .i64 ni) := R3.cell 3); (have c34 : w3.cell? ⟨w1.heap.size, 4, none⟩ = some (.bool nn) := R3.cell 4)) | (go_at_call 30; (with_reducible refine (HAL.out _).mono ?_); rintro e w4 ⟨rfl, hb4⟩; (have R4 := (R3.alloc _).next hb4); (have l4 := R4.lt); (have c40 : w4.cell? ⟨w1.heap.size, 0, none⟩ = some (.bool nb) := R4.cell 0); (have c41 : w4.cell? ⟨w1.heap.size, 1, none⟩ = some (.string ⟨nd.toArray⟩) := R4.cell 1); (have c42 : w4.cell? ⟨w1.heap.size, 2, none⟩ = some (.int .i64 np) := R4.cell 2); (have c43 : w4.cell? ⟨w1.heap.size, 3, none⟩ = some (.int .i64 ni) := R4.cell 3); (have c44 : w4.cell? ⟨w1.heap.size, 4, none⟩ = some (.bool nn) := R4.cell 4)) | (go_at_call 105; (with_reducible refine (HH.out _).mono ?_); rintro e w5 ⟨rfl, hb5⟩; (have R5 := (R4).next hb5); (have l5 := R5.lt); (have c50 : w5.cell? ⟨w1.heap.size, 0, none⟩ = some (.bool nb) := R5.cell 0); (have c51 : w5.cell? ⟨w1.heap.size, 1, none⟩ = some (.string ⟨nd.toArray⟩) := R5.cell 1); (have c52 : w5.cell? ⟨w1.heap.size, 2, none⟩ = some (.int .i64 np) := R5.cell 2); (have c53 : w5.cell? ⟨w1.heap.size, 3, none⟩ = some (.int .i64 ni) := R5.cell 3); (have c54 : w5.cell? ⟨w1.heap.size, 4, none⟩ = some (.bool nn) := R5.cell 4)) | (go_at_call 30; (with_reducible refine (HAH.out _).mono ?_); rintro e w6 ⟨rfl, hb6⟩; (have R6 := (R5.alloc _).next hb6); (have l6 := R6.lt); (have c60 : w6.cell? ⟨w1.heap.size, 0, none⟩ = some (.bool nb) := R6.cell 0); (have c61 : w6.cell? ⟨w1.heap.size, 1, none⟩ = some (.string ⟨nd.toArray⟩) := R6.cell 1); (have c62 : w6.cell? ⟨w1.heap.size, 2, none⟩ = some (.int .i64 np) := R6.cell 2); (have c63 : w6.cell? ⟨w1.heap.size, 3, none⟩ = some (.int .i64 ni) := R6.cell 3); (have c64 : w6.cell? ⟨w1.heap.size, 4, none⟩ = some (.bool nn) := R6.cell 4)))
          go_ret
          exact ⟨rfl, hb1.trans (R6.below.mono hb1.size)⟩
end Go.Proofs.YtlhcejbimlilaaaGreatDoor
