/- VdG VaV, laid as one. -/
import Derived.Test.YtlhcejbimlilaaaGreatDoorVdF
import Derived.Test.YtlhcejbimlilaaaGreatDoorQuL
import Derived.Test.YtlhcejbimlilaaaGreatDoorVaJ
set_option linter.unusedVariables false
set_option linter.unusedSimpArgs false
/- The document's order (written by gen_vdg.py). -/
namespace Go.Proofs.YtlhcejbimlilaaaGreatDoor
open Go.RowKit Go.Tk
theorem neg_small {c : Int} (h : c = -1 ∨ c = 0 ∨ c = 1) : IntKind.i64.wrap (-c) = -c := by rcases h with rfl | rfl | rfl <;> decide
theorem cmZ_rng3 (a b : Int) : cmZ a b = -1 ∨ cmZ a b = 0 ∨ cmZ a b = 1 := by
  unfold cmZ
  split
  · exact .inl rfl
  split
  · exact .inr (.inr rfl)
  · exact .inr (.inl rfl)
set_option maxRecDepth 100000 in
set_option maxHeartbeats 8000000 in
theorem rorder_calls (n1 i1 g1 : Bool) (D1 : ByteArray) (p1 : Int) (n2 i2 g2 : Bool) (D2 : ByteArray) (p2 : Int) (w : World) :
    Calls Tryz.prog 40 #[.agg #[.bool n1, .bool i1, .bool g1, .string D1, .int .i64 p1], .agg #[.bool n2, .bool i2, .bool g2, .string D2, .int .i64 p2]] w fun e w' => e = .returned (.int .i64 (orV (nbEq n1 i1 g1 D1 p1 n2 i2 g2 D2 p2) i1 g1 D1.data.toList p1 i2 g2 D2.data.toList p2)) ∧ Below w.heap.size w w' := by
  have heq := fun w => nb_eql n1 i1 g1 D1 p1 n2 i2 g2 D2 p2 w
  have hgd := nb_guarded
  have h1 := fun w => rsign_calls n1 i1 g1 D1 p1 w
  have h2 := fun w => rsign_calls n2 i2 g2 D2 p2 w
  have hp := fun w => rcompare_calls p1 p2 w
  have ht := fun w => rtexts_calls D1 D2 w
  have hO : orV (nbEq n1 i1 g1 D1 p1 n2 i2 g2 D2 p2) i1 g1 D1.data.toList p1 i2 g2 D2.data.toList p2 = if (nbEq n1 i1 g1 D1 p1 n2 i2 g2 D2 p2) = true then 0
      else if sgV g1 i1 D1.data.toList ≠ sgV g2 i2 D2.data.toList then cmZ (sgV g1 i1 D1.data.toList) (sgV g2 i2 D2.data.toList)
      else if (i1 || i2) = true then (if (i1 && g1 || i2 && !g2) = true then -1 else 1)
      else if g1 = true then -(if cmZ p1 p2 = 0 then cmB D1.data.toList D2.data.toList else cmZ p1 p2) else (if cmZ p1 p2 = 0 then cmB D1.data.toList D2.data.toList else cmZ p1 p2) := rfl
  rw [hO]
  clear hO
  have hc := fun w => rcompare_calls (sgV g1 i1 D1.data.toList) (sgV g2 i2 D2.data.toList) w
  obtain ⟨s1, hs1⟩ : ∃ s, s = sgV g1 i1 D1.data.toList := ⟨_, rfl⟩
  obtain ⟨s2, hs2⟩ : ∃ s, s = sgV g2 i2 D2.data.toList := ⟨_, rfl⟩
  rw [← hs1] at h1 hc ⊢
  rw [← hs2] at h2 hc ⊢
  clear hs1 hs2
  have rp := cmZ_rng3 p1 p2
  have rt := cmB_rng D1.data.toList D2.data.toList
  obtain ⟨c, hcc⟩ : ∃ s, s = cmZ s1 s2 := ⟨_, rfl⟩
  obtain ⟨cp, hcp⟩ : ∃ s, s = cmZ p1 p2 := ⟨_, rfl⟩
  obtain ⟨ct, hct⟩ : ∃ s, s = cmB D1.data.toList D2.data.toList := ⟨_, rfl⟩
  obtain ⟨q, hq⟩ : ∃ s, s = nbEq n1 i1 g1 D1 p1 n2 i2 g2 D2 p2 := ⟨_, rfl⟩
  rw [← hcc] at hc ⊢
  rw [← hcp] at hp rp ⊢
  rw [← hct] at ht rt ⊢
  simp only [← hq] at heq ⊢
  clear hcc hcp hct hq
  have kp := neg_small rp
  have kt := neg_small rt
  have H1 := Lib.hid h1
  have H2 := Lib.hid h2
  have HP := Lib.hid hp
  have HT := Lib.hid ht
  have HC := Lib.hid hc
  clear h1 h2 hp ht hc rp rt
  cases q with
  | true =>
    rw [if_pos rfl]
    go_enter Tryz.func40, Tryz.ntmps40
    go_upto_region 1 with fail
    obtain ⟨r1, r2, hb⟩ := box2 w (.cells #[.bool n1, .bool i1, .bool g1, .string D1, .int .i64 p1] 61) (.cells #[.bool n2, .bool i2, .bool g2, .string D2, .int .i64 p2] 61)
    generalize World.alloc (World.alloc w _) _ = w2 at r1 r2 hb ⊢
    have x0 := row_cell r1 0
    have y0 := row_cell r2 0
    have x1 := row_cell r1 1
    have y1 := row_cell r2 1
    have x2 := row_cell r1 2
    have y2 := row_cell r2 2
    have x3 := row_cell r1 3
    have y3 := row_cell r2 3
    have x4 := row_cell r1 4
    have y4 := row_cell r2 4
    simp at x0 x1 x2 x3 x4 y0 y1 y2 y3 y4
    have HR1 := Lib.hid r1
    have HR2 := Lib.hid r2
    clear r1 r2
    go_wp2_with fail
    go_ret
    exact ⟨rfl, hb⟩
  | false =>
    rw [if_neg (by simp)]
    by_cases hs : s1 = s2
    · subst hs
      rw [if_neg (by simp)]
      cases hi : (i1 || i2) with
      | true =>
        rw [if_pos rfl]
        have hi2 : (i1 = true) ∨ (i1 = false ∧ i2 = true) := by revert hi; cases i1 <;> cases i2 <;> simp
        clear hi
        have HI := Lib.hid hi2
        clear hi2 kp kt
        go_enter Tryz.func40, Tryz.ntmps40
        go_upto_region 1 with fail
        obtain ⟨r1, r2, hb⟩ := box2 w (.cells #[.bool n1, .bool i1, .bool g1, .string D1, .int .i64 p1] 61) (.cells #[.bool n2, .bool i2, .bool g2, .string D2, .int .i64 p2] 61)
        generalize World.alloc (World.alloc w _) _ = w2 at r1 r2 hb ⊢
        have x0 := row_cell r1 0
        have y0 := row_cell r2 0
        have x1 := row_cell r1 1
        have y1 := row_cell r2 1
        have x2 := row_cell r1 2
        have y2 := row_cell r2 2
        have x3 := row_cell r1 3
        have y3 := row_cell r2 3
        have x4 := row_cell r1 4
        have y4 := row_cell r2 4
        simp at x0 x1 x2 x3 x4 y0 y1 y2 y3 y4
        have HR1 := Lib.hid r1
        have HR2 := Lib.hid r2
        clear r1 r2
        go_upto_region 3 with fail
        have r1 := HR1.out
        have r2 := HR2.out
        clear x0 x1 x2 x3 x4 y0 y1 y2 y3 y4
        have q1 := Lw.row r1
        have q2 := Lw.row r2
        have x0 := fun x => (row_cell (q1 x) 0)
        have y0 := fun x => (row_cell (q2 x) 0)
        have x1 := fun x => (row_cell (q1 x) 1)
        have y1 := fun x => (row_cell (q2 x) 1)
        have x2 := fun x => (row_cell (q1 x) 2)
        have y2 := fun x => (row_cell (q2 x) 2)
        have x3 := fun x => (row_cell (q1 x) 3)
        have y3 := fun x => (row_cell (q2 x) 3)
        have x4 := fun x => (row_cell (q1 x) 4)
        have y4 := fun x => (row_cell (q2 x) 4)
        simp at x0 x1 x2 x3 x4 y0 y1 y2 y3 y4
        clear q1 q2
        clear r1 r2
        refine wp_region_lw (by kernel_rfl) (by kernel_rfl) ?_
        repeat (go_big_quiet_step (first | exact rfl | (go_at_call 88; (first | with_reducible exact lw_call (H1.out _) | with_reducible exact lw_call (H2.out _)))))
        refine wpQuiet_nil ?_
        rintro ⟨w3, hbx⟩
        dsimp only
        clear x0 x1 x2 x3 x4 y0 y1 y2 y3 y4
        replace HR1 := Lib.hid ((hbx.block _ (lt_of_block HR1.out)).trans HR1.out)
        replace HR2 := Lib.hid ((hbx.block _ (lt_of_block HR2.out)).trans HR2.out)
        replace hb := hb.trans (hbx.mono hb.size)
        clear hbx
        have r1 := HR1.out
        have r2 := HR2.out
        have x0 := row_cell r1 0
        have y0 := row_cell r2 0
        have x1 := row_cell r1 1
        have y1 := row_cell r2 1
        have x2 := row_cell r1 2
        have y2 := row_cell r2 2
        have x3 := row_cell r1 3
        have y3 := row_cell r2 3
        have x4 := row_cell r1 4
        have y4 := row_cell r2 4
        simp at x0 x1 x2 x3 x4 y0 y1 y2 y3 y4
        clear r1 r2
        rcases HI.out with rfl | ⟨rfl, rfl⟩
        · clear HI
          cases g1 <;> cases i2 <;> cases g2 <;> (go_wp2_with fail; go_ret; exact ⟨rfl, hb⟩)
        · clear HI
          cases g1 <;> cases g2 <;> (go_wp2_with fail; go_ret; exact ⟨rfl, hb⟩)
      | false =>
        rw [if_neg (by simp)]
        have hi1 : i1 = false := by revert hi; cases i1 <;> simp
        have hi2 : i2 = false := by revert hi; cases i2 <;> simp
        subst hi1 hi2
        clear hi
        by_cases hz : cp = 0
        · rw [if_pos hz]
          subst hz
          clear kp
          go_enter Tryz.func40, Tryz.ntmps40
          go_upto_region 1 with fail
          obtain ⟨r1, r2, hb⟩ := box2 w (.cells #[.bool n1, .bool false, .bool g1, .string D1, .int .i64 p1] 61) (.cells #[.bool n2, .bool false, .bool g2, .string D2, .int .i64 p2] 61)
          generalize World.alloc (World.alloc w _) _ = w2 at r1 r2 hb ⊢
          have x0 := row_cell r1 0
          have y0 := row_cell r2 0
          have x1 := row_cell r1 1
          have y1 := row_cell r2 1
          have x2 := row_cell r1 2
          have y2 := row_cell r2 2
          have x3 := row_cell r1 3
          have y3 := row_cell r2 3
          have x4 := row_cell r1 4
          have y4 := row_cell r2 4
          simp at x0 x1 x2 x3 x4 y0 y1 y2 y3 y4
          have HR1 := Lib.hid r1
          have HR2 := Lib.hid r2
          clear r1 r2
          go_upto_region 3 with fail
          have r1 := HR1.out
          have r2 := HR2.out
          clear x0 x1 x2 x3 x4 y0 y1 y2 y3 y4
          have q1 := Lw.row r1
          have q2 := Lw.row r2
          have x0 := fun x => (row_cell (q1 x) 0)
          have y0 := fun x => (row_cell (q2 x) 0)
          have x1 := fun x => (row_cell (q1 x) 1)
          have y1 := fun x => (row_cell (q2 x) 1)
          have x2 := fun x => (row_cell (q1 x) 2)
          have y2 := fun x => (row_cell (q2 x) 2)
          have x3 := fun x => (row_cell (q1 x) 3)
          have y3 := fun x => (row_cell (q2 x) 3)
          have x4 := fun x => (row_cell (q1 x) 4)
          have y4 := fun x => (row_cell (q2 x) 4)
          simp at x0 x1 x2 x3 x4 y0 y1 y2 y3 y4
          clear q1 q2
          clear r1 r2
          refine wp_region_lw (by kernel_rfl) (by kernel_rfl) ?_
          repeat (go_big_quiet_step (first | exact rfl | (go_at_call 88; (first | with_reducible exact lw_call (H1.out _) | with_reducible exact lw_call (H2.out _)))))
          refine wpQuiet_nil ?_
          rintro ⟨w3, hbx⟩
          dsimp only
          clear x0 x1 x2 x3 x4 y0 y1 y2 y3 y4
          replace HR1 := Lib.hid ((hbx.block _ (lt_of_block HR1.out)).trans HR1.out)
          replace HR2 := Lib.hid ((hbx.block _ (lt_of_block HR2.out)).trans HR2.out)
          replace hb := hb.trans (hbx.mono hb.size)
          clear hbx
          have r1 := HR1.out
          have r2 := HR2.out
          have x0 := row_cell r1 0
          have y0 := row_cell r2 0
          have x1 := row_cell r1 1
          have y1 := row_cell r2 1
          have x2 := row_cell r1 2
          have y2 := row_cell r2 2
          have x3 := row_cell r1 3
          have y3 := row_cell r2 3
          have x4 := row_cell r1 4
          have y4 := row_cell r2 4
          simp at x0 x1 x2 x3 x4 y0 y1 y2 y3 y4
          clear r1 r2
          cases g1 <;> (go_wp2_with (first | (go_at_call 89; (with_reducible refine (HP.out _).mono ?_); rintro e' w' ⟨rfl, rfl⟩) | (go_at_call 41; (with_reducible refine (HT.out _).mono ?_); rintro e' w' ⟨rfl, rfl⟩)); go_ret; exact ⟨rfl, hb⟩)
        · rw [if_neg hz]
          have hzb : (cp == 0) = false := beq_false_of_ne hz
          clear kt
          go_enter Tryz.func40, Tryz.ntmps40
          go_upto_region 1 with fail
          obtain ⟨r1, r2, hb⟩ := box2 w (.cells #[.bool n1, .bool false, .bool g1, .string D1, .int .i64 p1] 61) (.cells #[.bool n2, .bool false, .bool g2, .string D2, .int .i64 p2] 61)
          generalize World.alloc (World.alloc w _) _ = w2 at r1 r2 hb ⊢
          have x0 := row_cell r1 0
          have y0 := row_cell r2 0
          have x1 := row_cell r1 1
          have y1 := row_cell r2 1
          have x2 := row_cell r1 2
          have y2 := row_cell r2 2
          have x3 := row_cell r1 3
          have y3 := row_cell r2 3
          have x4 := row_cell r1 4
          have y4 := row_cell r2 4
          simp at x0 x1 x2 x3 x4 y0 y1 y2 y3 y4
          have HR1 := Lib.hid r1
          have HR2 := Lib.hid r2
          clear r1 r2
          go_upto_region 3 with fail
          have r1 := HR1.out
          have r2 := HR2.out
          clear x0 x1 x2 x3 x4 y0 y1 y2 y3 y4
          have q1 := Lw.row r1
          have q2 := Lw.row r2
          have x0 := fun x => (row_cell (q1 x) 0)
          have y0 := fun x => (row_cell (q2 x) 0)
          have x1 := fun x => (row_cell (q1 x) 1)
          have y1 := fun x => (row_cell (q2 x) 1)
          have x2 := fun x => (row_cell (q1 x) 2)
          have y2 := fun x => (row_cell (q2 x) 2)
          have x3 := fun x => (row_cell (q1 x) 3)
          have y3 := fun x => (row_cell (q2 x) 3)
          have x4 := fun x => (row_cell (q1 x) 4)
          have y4 := fun x => (row_cell (q2 x) 4)
          simp at x0 x1 x2 x3 x4 y0 y1 y2 y3 y4
          clear q1 q2
          clear r1 r2
          refine wp_region_lw (by kernel_rfl) (by kernel_rfl) ?_
          repeat (go_big_quiet_step (first | exact rfl | (go_at_call 88; (first | with_reducible exact lw_call (H1.out _) | with_reducible exact lw_call (H2.out _)))))
          refine wpQuiet_nil ?_
          rintro ⟨w3, hbx⟩
          dsimp only
          clear x0 x1 x2 x3 x4 y0 y1 y2 y3 y4
          replace HR1 := Lib.hid ((hbx.block _ (lt_of_block HR1.out)).trans HR1.out)
          replace HR2 := Lib.hid ((hbx.block _ (lt_of_block HR2.out)).trans HR2.out)
          replace hb := hb.trans (hbx.mono hb.size)
          clear hbx
          have r1 := HR1.out
          have r2 := HR2.out
          have x0 := row_cell r1 0
          have y0 := row_cell r2 0
          have x1 := row_cell r1 1
          have y1 := row_cell r2 1
          have x2 := row_cell r1 2
          have y2 := row_cell r2 2
          have x3 := row_cell r1 3
          have y3 := row_cell r2 3
          have x4 := row_cell r1 4
          have y4 := row_cell r2 4
          simp at x0 x1 x2 x3 x4 y0 y1 y2 y3 y4
          clear r1 r2
          cases g1 <;> (go_wp2_with (first | (go_at_call 89; (with_reducible refine (HP.out _).mono ?_); rintro e' w' ⟨rfl, rfl⟩) | (go_at_call 41; (with_reducible refine (HT.out _).mono ?_); rintro e' w' ⟨rfl, rfl⟩)); go_ret; exact ⟨rfl, hb⟩)
    · rw [if_pos hs]
      have hsb : (s1 != s2) = true := bne_iff_ne.2 hs
      clear hs kp kt
      go_enter Tryz.func40, Tryz.ntmps40
      go_upto_region 1 with fail
      obtain ⟨r1, r2, hb⟩ := box2 w (.cells #[.bool n1, .bool i1, .bool g1, .string D1, .int .i64 p1] 61) (.cells #[.bool n2, .bool i2, .bool g2, .string D2, .int .i64 p2] 61)
      generalize World.alloc (World.alloc w _) _ = w2 at r1 r2 hb ⊢
      have x0 := row_cell r1 0
      have y0 := row_cell r2 0
      have x1 := row_cell r1 1
      have y1 := row_cell r2 1
      have x2 := row_cell r1 2
      have y2 := row_cell r2 2
      have x3 := row_cell r1 3
      have y3 := row_cell r2 3
      have x4 := row_cell r1 4
      have y4 := row_cell r2 4
      simp at x0 x1 x2 x3 x4 y0 y1 y2 y3 y4
      have HR1 := Lib.hid r1
      have HR2 := Lib.hid r2
      clear r1 r2
      go_upto_region 3 with fail
      have r1 := HR1.out
      have r2 := HR2.out
      clear x0 x1 x2 x3 x4 y0 y1 y2 y3 y4
      have q1 := Lw.row r1
      have q2 := Lw.row r2
      have x0 := fun x => (row_cell (q1 x) 0)
      have y0 := fun x => (row_cell (q2 x) 0)
      have x1 := fun x => (row_cell (q1 x) 1)
      have y1 := fun x => (row_cell (q2 x) 1)
      have x2 := fun x => (row_cell (q1 x) 2)
      have y2 := fun x => (row_cell (q2 x) 2)
      have x3 := fun x => (row_cell (q1 x) 3)
      have y3 := fun x => (row_cell (q2 x) 3)
      have x4 := fun x => (row_cell (q1 x) 4)
      have y4 := fun x => (row_cell (q2 x) 4)
      simp at x0 x1 x2 x3 x4 y0 y1 y2 y3 y4
      clear q1 q2
      clear r1 r2
      refine wp_region_lw (by kernel_rfl) (by kernel_rfl) ?_
      repeat (go_big_quiet_step (first | exact rfl | (go_at_call 88; (first | with_reducible exact lw_call (H1.out _) | with_reducible exact lw_call (H2.out _)))))
      refine wpQuiet_nil ?_
      rintro ⟨w3, hbx⟩
      dsimp only
      clear x0 x1 x2 x3 x4 y0 y1 y2 y3 y4
      replace HR1 := Lib.hid ((hbx.block _ (lt_of_block HR1.out)).trans HR1.out)
      replace HR2 := Lib.hid ((hbx.block _ (lt_of_block HR2.out)).trans HR2.out)
      replace hb := hb.trans (hbx.mono hb.size)
      clear hbx
      have r1 := HR1.out
      have r2 := HR2.out
      have x0 := row_cell r1 0
      have y0 := row_cell r2 0
      have x1 := row_cell r1 1
      have y1 := row_cell r2 1
      have x2 := row_cell r1 2
      have y2 := row_cell r2 2
      have x3 := row_cell r1 3
      have y3 := row_cell r2 3
      have x4 := row_cell r1 4
      have y4 := row_cell r2 4
      simp at x0 x1 x2 x3 x4 y0 y1 y2 y3 y4
      clear r1 r2
      go_upto_region 4 with fail
      have r1 := HR1.out
      have r2 := HR2.out
      clear x0 x1 x2 x3 x4 y0 y1 y2 y3 y4
      have q1 := Lw.row r1
      have q2 := Lw.row r2
      have x0 := fun x => (row_cell (q1 x) 0)
      have y0 := fun x => (row_cell (q2 x) 0)
      have x1 := fun x => (row_cell (q1 x) 1)
      have y1 := fun x => (row_cell (q2 x) 1)
      have x2 := fun x => (row_cell (q1 x) 2)
      have y2 := fun x => (row_cell (q2 x) 2)
      have x3 := fun x => (row_cell (q1 x) 3)
      have y3 := fun x => (row_cell (q2 x) 3)
      have x4 := fun x => (row_cell (q1 x) 4)
      have y4 := fun x => (row_cell (q2 x) 4)
      simp at x0 x1 x2 x3 x4 y0 y1 y2 y3 y4
      clear q1 q2
      clear r1 r2
      refine wp_region_lw (by kernel_rfl) (by kernel_rfl) ?_
      repeat (go_big_quiet_step (first | exact rfl | (go_at_call 88; (first | with_reducible exact lw_call (H1.out _) | with_reducible exact lw_call (H2.out _))) | (go_at_call 89; with_reducible exact lw_same (HC.out _))))
      refine wpQuiet_nil ?_
      rintro ⟨w4, hbx⟩
      dsimp only
      clear x0 x1 x2 x3 x4 y0 y1 y2 y3 y4
      replace HR1 := Lib.hid ((hbx.block _ (lt_of_block HR1.out)).trans HR1.out)
      replace HR2 := Lib.hid ((hbx.block _ (lt_of_block HR2.out)).trans HR2.out)
      replace hb := hb.trans (hbx.mono hb.size)
      clear hbx
      have r1 := HR1.out
      have r2 := HR2.out
      have x0 := row_cell r1 0
      have y0 := row_cell r2 0
      have x1 := row_cell r1 1
      have y1 := row_cell r2 1
      have x2 := row_cell r1 2
      have y2 := row_cell r2 2
      have x3 := row_cell r1 3
      have y3 := row_cell r2 3
      have x4 := row_cell r1 4
      have y4 := row_cell r2 4
      simp at x0 x1 x2 x3 x4 y0 y1 y2 y3 y4
      clear r1 r2
      go_wp2_with fail
      go_ret
      exact ⟨rfl, hb⟩
end Go.Proofs.YtlhcejbimlilaaaGreatDoor
/- The program's readDay, readClock, readDateTime (written by gen_vav.py). -/
namespace Go.Tk
open Go Go.RowKit
/-- What a reader of moments answers: a moment (the one, if the text is one), and whether it is one. -/
def MtPost (o : Option Mt) (w : World) (e : Ending) (w' : World) : Prop := ∃ m : Mt, e = .returned (.tuple #[m.val, .bool o.isSome]) ∧ mtO o m ∧ Below w.heap.size w w'
theorem mtO_none (m : Mt) : mtO none m := fun _ h => by cases h
theorem mtO_in (sec : Int) (p z : List UInt8) : mtO (inP sec p z) (inV sec p z) := fun m' h => by
  rw [inP_eq] at h
  split at h
  · exact Option.some.inj h
  · cases h
theorem inP_some (sec : Int) (p z : List UInt8) : (inP sec p z).isSome = (rdZ z).isSome := by
  rw [inP_eq]; cases (rdZ z).isSome <;> rfl
theorem inP_len {sec : Int} {p z : List UInt8} : (inV sec p z).sec = sec ∧ (inV sec p z).part = p := by
  unfold inV inW; cases rdZ z <;> exact ⟨rfl, rfl⟩
end Go.Tk
namespace Go.Proofs.YtlhcejbimlilaaaGreatDoor
open Go.RowKit Go.Tk
set_option maxHeartbeats 2000000 in
theorem readDay_calls (s : ByteArray) (w : World) (hs : s.size ≤ 4000000000) :
    Calls Tryz.prog 37 #[.string s] w (MtPost (rdDay s.data.toList) w) := by
  have hrd := fun w => readDate_calls s w hs
  have hbd : ∀ n r, rdD s.data.toList = some (n, r) → _ := fun n r h => rdD_bd h
  have hdd : rdDay s.data.toList = match rdD s.data.toList with | none => none | some (n, z) => inP (n * 86400) [] z := rfl
  have hsz : s.data.toList.length = s.size := (Lib.size_eq s).symm
  rw [hdd]
  clear hdd
  cases ho : rdD s.data.toList with
  | none =>
    rw [ho] at hrd
    have hrd : ∀ w, Calls Tryz.prog 84 #[.string s] w fun e w' => e = .returned (.tuple #[.int .i64 0, .string ⟨#[]⟩, .bool false]) ∧ Below w.heap.size w w' := hrd
    have HRD := Lib.hid hrd
    clear hrd ho hbd hsz
    dsimp only
    go_enter Tryz.func37, Tryz.ntmps37
    go_wp2_with (go_at_call 84; (with_reducible refine (HRD.out _).mono ?_); rintro e w3 ⟨rfl, hb3⟩; (have R3 := (Res1.start 76 #[.int .i64 0, .string ⟨#[]⟩, .bool false, .int .i64 0, .string ⟨#[]⟩] w).next hb3); (have c30 : w3.cell? ⟨w.heap.size, 0, none⟩ = some (.int .i64 0) := R3.cell 0); (have c31 : w3.cell? ⟨w.heap.size, 1, none⟩ = some (.string ⟨#[]⟩) := R3.cell 1); (have c32 : w3.cell? ⟨w.heap.size, 2, none⟩ = some (.bool false) := R3.cell 2); (have c33 : w3.cell? ⟨w.heap.size, 3, none⟩ = some (.int .i64 0) := R3.cell 3); (have c34 : w3.cell? ⟨w.heap.size, 4, none⟩ = some (.string ⟨#[]⟩) := R3.cell 4); (have f3 : ∀ i, w3.frozen? ⟨w.heap.size, i, none⟩ = false := R3.frozen))
    refine bodyPost_ret (v := .tuple #[.agg #[.int .i64 0, .string ⟨#[]⟩, .bool false, .int .i64 0, .string ⟨#[]⟩], .bool false]) (by simp [results, Tryz.results37, go_sem, c30, c31, c32, c33, c34]) rfl ⟨mtZ, rfl, mtO_none _, ?_⟩
    repeat (first | exact R3.below | with_reducible refine below_drewN ?_ _ | (with_reducible refine Below.setCell ?_ (by simp) _))
  | some q =>
    obtain ⟨n, r⟩ := q
    have hb := hbd n r ho
    obtain ⟨⟨hb1, hb2⟩, hbl⟩ := hb
    obtain ⟨Z, hZ⟩ : ∃ Z : ByteArray, Z = ⟨r.toArray⟩ := ⟨_, rfl⟩
    have hZd : Z.data.toList = r := by rw [hZ]
    have hZs : Z.size ≤ 4000000000 := by rw [Lib.size_eq, hZd]; omega
    rw [ho] at hrd
    have hrd : ∀ w, Calls Tryz.prog 84 #[.string s] w fun e w' => e = .returned (.tuple #[.int .i64 n, .string Z, .bool true]) ∧ Below w.heap.size w w' := fun w => by rw [hZ]; exact hrd w
    have hin := fun w => in_calls (n * 86400) ⟨#[]⟩ Z w hZs
    rw [hZd] at hin
    obtain ⟨m, hm⟩ : ∃ m, m = inV (n * 86400) [] r := ⟨_, rfl⟩
    obtain ⟨ok, hok⟩ : ∃ b, b = (rdZ r).isSome := ⟨_, rfl⟩
    have hin : ∀ w, Calls Tryz.prog 87 #[.agg #[.int .i64 (n * 86400), .string ⟨#[]⟩, .bool false, .int .i64 0, .string ⟨#[]⟩], .string Z] w fun e w' => e = .returned (.tuple #[m.val, .bool ok]) ∧ Below w.heap.size w w' := fun w => by rw [hm, hok]; exact hin w
    have hmo := mtO_in (n * 86400) [] r
    have his := inP_some (n * 86400) [] r
    rw [← hm] at hmo
    rw [← hok] at his
    dsimp only
    obtain ⟨O, hO⟩ : ∃ O, O = inP (n * 86400) [] r := ⟨_, rfl⟩
    rw [← hO] at hmo his ⊢
    obtain ⟨ms, mp, mz, mn, mq⟩ := m
    have HMO := Lib.hid hmo
    have HIS := Lib.hid his
    unfold Mt.val at hin
    dsimp only at hin
    have HIN := Lib.hid hin
    have HRD := Lib.hid hrd
    clear hrd ho hbd hsz hin hm hok hmo his hZ hZd hbl hO
    go_enter Tryz.func37, Tryz.ntmps37
    go_wp2_with (first | (go_at_call 84; (with_reducible refine (HRD.out _).mono ?_); rintro e w3 ⟨rfl, hb3⟩; (have R3 := (Res1.start 76 #[.int .i64 0, .string ⟨#[]⟩, .bool false, .int .i64 0, .string ⟨#[]⟩] w).next hb3); (have c30 : w3.cell? ⟨w.heap.size, 0, none⟩ = some (.int .i64 0) := R3.cell 0); (have c31 : w3.cell? ⟨w.heap.size, 1, none⟩ = some (.string ⟨#[]⟩) := R3.cell 1); (have c32 : w3.cell? ⟨w.heap.size, 2, none⟩ = some (.bool false) := R3.cell 2); (have c33 : w3.cell? ⟨w.heap.size, 3, none⟩ = some (.int .i64 0) := R3.cell 3); (have c34 : w3.cell? ⟨w.heap.size, 4, none⟩ = some (.string ⟨#[]⟩) := R3.cell 4); (have f3 : ∀ i, w3.frozen? ⟨w.heap.size, i, none⟩ = false := R3.frozen)) | (go_at_call 87; (with_reducible refine (HIN.out _).mono ?_); rintro e w4 ⟨rfl, hb4⟩; (have R4 := (R3).next hb4); (have c40 : w4.cell? ⟨w.heap.size, 0, none⟩ = some (.int .i64 0) := R4.cell 0); (have c41 : w4.cell? ⟨w.heap.size, 1, none⟩ = some (.string ⟨#[]⟩) := R4.cell 1); (have c42 : w4.cell? ⟨w.heap.size, 2, none⟩ = some (.bool false) := R4.cell 2); (have c43 : w4.cell? ⟨w.heap.size, 3, none⟩ = some (.int .i64 0) := R4.cell 3); (have c44 : w4.cell? ⟨w.heap.size, 4, none⟩ = some (.string ⟨#[]⟩) := R4.cell 4); (have f4 : ∀ i, w4.frozen? ⟨w.heap.size, i, none⟩ = false := R4.frozen)))
    refine bodyPost_ret (v := .tuple #[.agg #[.int .i64 ms, .string ⟨mp.toArray⟩, .bool mz, .int .i64 mn, .string ⟨mq.toArray⟩], .bool ok]) (by simp [results, Tryz.results37, go_sem, c40, c41, c42, c43, c44]) rfl ⟨⟨ms, mp, mz, mn, mq⟩, by rw [HIS.out]; rfl, HMO.out, ?_⟩
    repeat (first | exact R4.below | with_reducible refine below_drewN ?_ _ | (with_reducible refine Below.setCell ?_ (by simp) _))
set_option maxHeartbeats 2000000 in
theorem readClock_calls (s : ByteArray) (w : World) (hs : s.size ≤ 4000000000) :
    Calls Tryz.prog 38 #[.string s] w (MtPost (rdClk s.data.toList) w) := by
  have hrd := fun w => readTime_calls s w hs
  have hdd : rdClk s.data.toList = match rdT s.data.toList with | none => none | some (c, p, z) => inP (c % 86400) p z := rfl
  have hsz : s.data.toList.length = s.size := (Lib.size_eq s).symm
  rw [hdd]
  clear hdd
  cases ho : rdT s.data.toList with
  | none =>
    rw [ho] at hrd
    have hrd : ∀ w, Calls Tryz.prog 86 #[.string s] w fun e w' => e = .returned (.tuple #[.int .i64 0, .string ⟨#[]⟩, .string ⟨#[]⟩, .bool false]) ∧ ∃ n, w' = w.drewN n := hrd
    have HRD := Lib.hid hrd
    clear hrd ho hsz
    dsimp only
    go_enter Tryz.func38, Tryz.ntmps38
    go_wp2_with (go_at_call 86; (with_reducible refine (HRD.out _).mono ?_); rintro e w3 ⟨rfl, n, rfl⟩)
    refine bodyPost_ret (v := .tuple #[.agg #[.int .i64 0, .string ⟨#[]⟩, .bool false, .int .i64 0, .string ⟨#[]⟩], .bool false]) (by simp [results, Tryz.results38, go_sem]) rfl ⟨mtZ, rfl, mtO_none _, ?_⟩
    repeat (first | with_reducible exact Below.refl _ _ | with_reducible refine below_drewN ?_ _ | (with_reducible refine Below.setCell ?_ (by simp) _) | (with_reducible refine Below.alloc ?_ (by simp) _))
  | some q =>
    obtain ⟨c, p, z⟩ := q
    obtain ⟨⟨hb1, hb2⟩, hbp, hbl⟩ := rdT_bd ho
    obtain ⟨P, hP⟩ : ∃ P : ByteArray, P = ⟨p.toArray⟩ := ⟨_, rfl⟩
    obtain ⟨Z, hZ⟩ : ∃ Z : ByteArray, Z = ⟨z.toArray⟩ := ⟨_, rfl⟩
    have hPd : P.data.toList = p := by rw [hP]
    have hZd : Z.data.toList = z := by rw [hZ]
    have hZs : Z.size ≤ 4000000000 := by rw [Lib.size_eq, hZd]; omega
    rw [ho] at hrd
    have hrd : ∀ w, Calls Tryz.prog 86 #[.string s] w fun e w' => e = .returned (.tuple #[.int .i64 c, .string P, .string Z, .bool true]) ∧ ∃ n, w' = w.drewN n := fun w => by rw [hZ, hP]; exact hrd w
    have hin := fun w => in_calls (c % 86400) P Z w hZs
    rw [hZd, hPd] at hin
    obtain ⟨m, hm⟩ : ∃ m, m = inV (c % 86400) p z := ⟨_, rfl⟩
    obtain ⟨ok, hok⟩ : ∃ b, b = (rdZ z).isSome := ⟨_, rfl⟩
    dsimp only
    have hin : ∀ w, Calls Tryz.prog 87 #[.agg #[.int .i64 (c % 86400), .string P, .bool false, .int .i64 0, .string ⟨#[]⟩], .string Z] w fun e w' => e = .returned (.tuple #[m.val, .bool ok]) ∧ Below w.heap.size w w' := fun w => by rw [hm, hok]; exact hin w
    have hmo := mtO_in (c % 86400) p z
    have his := inP_some (c % 86400) p z
    rw [← hm] at hmo
    rw [← hok] at his
    obtain ⟨O, hO⟩ : ∃ O, O = inP (c % 86400) p z := ⟨_, rfl⟩
    rw [← hO] at hmo his ⊢
    obtain ⟨ms, mp, mz, mn, mq⟩ := m
    have HMO := Lib.hid hmo
    have HIS := Lib.hid his
    unfold Mt.val at hin
    dsimp only at hin
    have HIN := Lib.hid hin
    have HRD := Lib.hid hrd
    clear hrd ho hsz hin hm hok hmo his hZ hZd hP hPd hbl hbp hO
    go_enter Tryz.func38, Tryz.ntmps38
    go_wp2_with (first | (go_at_call 86; (with_reducible refine (HRD.out _).mono ?_); rintro e w3 ⟨rfl, n, rfl⟩) | (go_at_call 87; (with_reducible refine (HIN.out _).mono ?_); rintro e w4 ⟨rfl, hb4⟩; (have R4 := ((Res1.start 76 #[.int .i64 0, .string ⟨#[]⟩, .bool false, .int .i64 0, .string ⟨#[]⟩] w).drewN _).next hb4); (have c40 : w4.cell? ⟨w.heap.size, 0, none⟩ = some (.int .i64 0) := R4.cell 0); (have c41 : w4.cell? ⟨w.heap.size, 1, none⟩ = some (.string ⟨#[]⟩) := R4.cell 1); (have c42 : w4.cell? ⟨w.heap.size, 2, none⟩ = some (.bool false) := R4.cell 2); (have c43 : w4.cell? ⟨w.heap.size, 3, none⟩ = some (.int .i64 0) := R4.cell 3); (have c44 : w4.cell? ⟨w.heap.size, 4, none⟩ = some (.string ⟨#[]⟩) := R4.cell 4); (have f4 : ∀ i, w4.frozen? ⟨w.heap.size, i, none⟩ = false := R4.frozen)))
    refine bodyPost_ret (v := .tuple #[.agg #[.int .i64 ms, .string ⟨mp.toArray⟩, .bool mz, .int .i64 mn, .string ⟨mq.toArray⟩], .bool ok]) (by simp [results, Tryz.results38, go_sem, c40, c41, c42, c43, c44]) rfl ⟨⟨ms, mp, mz, mn, mq⟩, by rw [HIS.out]; rfl, HMO.out, ?_⟩
    repeat (first | exact R4.below | with_reducible refine below_drewN ?_ _ | (with_reducible refine Below.setCell ?_ (by simp) _))
set_option maxHeartbeats 2000000 in
theorem readDateTime_calls (s : ByteArray) (w : World) (hs : s.size ≤ 4000000000) :
    Calls Tryz.prog 36 #[.string s] w (MtPost (rdDT s.data.toList) w) := by
  have hrd := fun w => readDate_calls s w hs
  have hdd : rdDT s.data.toList = match rdD s.data.toList with
    | none => none
    | some (n, r) => if Lib.hasPrefix r [84] = true then
        match rdT (r.drop 1) with
        | none => none
        | some (c, p, z) => inP (n * 86400 + c) p z
      else none := rfl
  have hsz : s.data.toList.length = s.size := (Lib.size_eq s).symm
  rw [hdd]
  clear hdd
  cases ho : rdD s.data.toList with
  | none =>
    rw [ho] at hrd
    have hrd : ∀ w, Calls Tryz.prog 84 #[.string s] w fun e w' => e = .returned (.tuple #[.int .i64 0, .string ⟨#[]⟩, .bool false]) ∧ Below w.heap.size w w' := hrd
    have hcp : ∀ w, Calls Tryz.prog 85 #[.string ⟨#[]⟩, .string ⟨#[84]⟩] w fun e w' => e = .returned (.tuple #[.string ⟨#[]⟩, .bool false]) ∧ w = w' := fun w => cutPre_calls ⟨#[]⟩ ⟨#[84]⟩ w
    have hrt : ∀ w, Calls Tryz.prog 86 #[.string ⟨#[]⟩] w fun e w' => e = .returned (.tuple #[.int .i64 0, .string ⟨#[]⟩, .string ⟨#[]⟩, .bool false]) ∧ ∃ n, w' = w.drewN n := fun w => readTime_calls ⟨#[]⟩ w (by decide)
    have HRD := Lib.hid hrd
    have HCP := Lib.hid hcp
    have HRT := Lib.hid hrt
    clear hrd hcp hrt ho hsz
    dsimp only
    go_enter Tryz.func36, Tryz.ntmps36
    go_wp2_with (first | (go_at_call 84; (with_reducible refine (HRD.out _).mono ?_); rintro e w3 ⟨rfl, hb3⟩; (have R3 := (Res1.start 76 #[.int .i64 0, .string ⟨#[]⟩, .bool false, .int .i64 0, .string ⟨#[]⟩] w).next hb3); (have c30 : w3.cell? ⟨w.heap.size, 0, none⟩ = some (.int .i64 0) := R3.cell 0); (have c31 : w3.cell? ⟨w.heap.size, 1, none⟩ = some (.string ⟨#[]⟩) := R3.cell 1); (have c32 : w3.cell? ⟨w.heap.size, 2, none⟩ = some (.bool false) := R3.cell 2); (have c33 : w3.cell? ⟨w.heap.size, 3, none⟩ = some (.int .i64 0) := R3.cell 3); (have c34 : w3.cell? ⟨w.heap.size, 4, none⟩ = some (.string ⟨#[]⟩) := R3.cell 4); (have f3 : ∀ i, w3.frozen? ⟨w.heap.size, i, none⟩ = false := R3.frozen)) | (go_at_call 85; (with_reducible refine (HCP.out _).mono ?_); rintro e w' ⟨rfl, rfl⟩) | (go_at_call 86; (with_reducible refine (HRT.out _).mono ?_); rintro e w' ⟨rfl, n9, rfl⟩))
    refine bodyPost_ret (v := .tuple #[.agg #[.int .i64 0, .string ⟨#[]⟩, .bool false, .int .i64 0, .string ⟨#[]⟩], .bool false]) (by simp [results, Tryz.results36, go_sem, c30, c31, c32, c33, c34]) rfl ⟨mtZ, rfl, mtO_none _, ?_⟩
    repeat (first | exact R3.below | with_reducible refine below_drewN ?_ _ | (with_reducible refine Below.setCell ?_ (by simp) _))
  | some q =>
    obtain ⟨n, r⟩ := q
    obtain ⟨⟨hn1, hn2⟩, hbr⟩ := rdD_bd ho
    obtain ⟨R, hR⟩ : ∃ R : ByteArray, R = ⟨r.toArray⟩ := ⟨_, rfl⟩
    have hRd : R.data.toList = r := by rw [hR]
    rw [ho] at hrd
    have hrd : ∀ w, Calls Tryz.prog 84 #[.string s] w fun e w' => e = .returned (.tuple #[.int .i64 n, .string R, .bool true]) ∧ Below w.heap.size w w' := fun w => by rw [hR]; exact hrd w
    have hcp := fun w => cutPre_calls R ⟨#[84]⟩ w
    rw [hRd] at hcp
    obtain ⟨Q, hQ⟩ : ∃ Q : ByteArray, Q = ⟨(Lib.trimPrefix r [84]).toArray⟩ := ⟨_, rfl⟩
    have hQd : Q.data.toList = Lib.trimPrefix r [84] := by rw [hQ]
    have hQs : Q.size ≤ 4000000000 := by
      rw [Lib.size_eq, hQd]
      unfold Lib.trimPrefix
      split
      · rw [List.length_drop]; omega
      · omega
    have hcp : ∀ w, Calls Tryz.prog 85 #[.string R, .string ⟨#[84]⟩] w fun e w' => e = .returned (.tuple #[.string Q, .bool (Lib.hasPrefix r [84])]) ∧ w = w' := fun w => by rw [hQ]; exact hcp w
    have hrt := fun w => readTime_calls Q w hQs
    have HRD := Lib.hid hrd
    dsimp only
    clear hrd hR hRd ho
    cases htt : Lib.hasPrefix r [84] with
    | false =>
      rw [htt] at hcp
      rw [if_neg (by simp)]
      have HCP := Lib.hid hcp
      clear hcp htt
      cases hq : rdT Q.data.toList with
      | none =>
        rw [hq] at hrt
        have hrt : ∀ w, Calls Tryz.prog 86 #[.string Q] w fun e w' => e = .returned (.tuple #[.int .i64 0, .string ⟨#[]⟩, .string ⟨#[]⟩, .bool false]) ∧ ∃ n, w' = w.drewN n := hrt
        have HRT := Lib.hid hrt
        clear hrt hq hQ hQd hsz
        go_enter Tryz.func36, Tryz.ntmps36
        go_wp2_with (first | (go_at_call 84; (with_reducible refine (HRD.out _).mono ?_); rintro e w3 ⟨rfl, hb3⟩; (have R3 := (Res1.start 76 #[.int .i64 0, .string ⟨#[]⟩, .bool false, .int .i64 0, .string ⟨#[]⟩] w).next hb3); (have c30 : w3.cell? ⟨w.heap.size, 0, none⟩ = some (.int .i64 0) := R3.cell 0); (have c31 : w3.cell? ⟨w.heap.size, 1, none⟩ = some (.string ⟨#[]⟩) := R3.cell 1); (have c32 : w3.cell? ⟨w.heap.size, 2, none⟩ = some (.bool false) := R3.cell 2); (have c33 : w3.cell? ⟨w.heap.size, 3, none⟩ = some (.int .i64 0) := R3.cell 3); (have c34 : w3.cell? ⟨w.heap.size, 4, none⟩ = some (.string ⟨#[]⟩) := R3.cell 4); (have f3 : ∀ i, w3.frozen? ⟨w.heap.size, i, none⟩ = false := R3.frozen)) | (go_at_call 85; (with_reducible refine (HCP.out _).mono ?_); rintro e w' ⟨rfl, rfl⟩) | (go_at_call 86; (with_reducible refine (HRT.out _).mono ?_); rintro e w' ⟨rfl, n9, rfl⟩))
        refine bodyPost_ret (v := .tuple #[.agg #[.int .i64 0, .string ⟨#[]⟩, .bool false, .int .i64 0, .string ⟨#[]⟩], .bool false]) (by simp [results, Tryz.results36, go_sem, c30, c31, c32, c33, c34]) rfl ⟨mtZ, rfl, mtO_none _, ?_⟩
        repeat (first | exact R3.below | with_reducible refine below_drewN ?_ _ | (with_reducible refine Below.setCell ?_ (by simp) _))
      | some x =>
        obtain ⟨c, p, z⟩ := x
        rw [hq] at hrt
        have hrt : ∀ w, Calls Tryz.prog 86 #[.string Q] w fun e w' => e = .returned (.tuple #[.int .i64 c, .string ⟨p.toArray⟩, .string ⟨z.toArray⟩, .bool true]) ∧ ∃ n, w' = w.drewN n := hrt
        have HRT := Lib.hid hrt
        clear hrt hq hQ hQd hsz
        go_enter Tryz.func36, Tryz.ntmps36
        go_wp2_with (first | (go_at_call 84; (with_reducible refine (HRD.out _).mono ?_); rintro e w3 ⟨rfl, hb3⟩; (have R3 := (Res1.start 76 #[.int .i64 0, .string ⟨#[]⟩, .bool false, .int .i64 0, .string ⟨#[]⟩] w).next hb3); (have c30 : w3.cell? ⟨w.heap.size, 0, none⟩ = some (.int .i64 0) := R3.cell 0); (have c31 : w3.cell? ⟨w.heap.size, 1, none⟩ = some (.string ⟨#[]⟩) := R3.cell 1); (have c32 : w3.cell? ⟨w.heap.size, 2, none⟩ = some (.bool false) := R3.cell 2); (have c33 : w3.cell? ⟨w.heap.size, 3, none⟩ = some (.int .i64 0) := R3.cell 3); (have c34 : w3.cell? ⟨w.heap.size, 4, none⟩ = some (.string ⟨#[]⟩) := R3.cell 4); (have f3 : ∀ i, w3.frozen? ⟨w.heap.size, i, none⟩ = false := R3.frozen)) | (go_at_call 85; (with_reducible refine (HCP.out _).mono ?_); rintro e w' ⟨rfl, rfl⟩) | (go_at_call 86; (with_reducible refine (HRT.out _).mono ?_); rintro e w' ⟨rfl, n9, rfl⟩))
        refine bodyPost_ret (v := .tuple #[.agg #[.int .i64 0, .string ⟨#[]⟩, .bool false, .int .i64 0, .string ⟨#[]⟩], .bool false]) (by simp [results, Tryz.results36, go_sem, c30, c31, c32, c33, c34]) rfl ⟨mtZ, rfl, mtO_none _, ?_⟩
        repeat (first | exact R3.below | with_reducible refine below_drewN ?_ _ | (with_reducible refine Below.setCell ?_ (by simp) _))
    | true =>
    rw [htt] at hcp
    rw [if_pos rfl]
    have hQ2 : Q.data.toList = r.drop 1 := by rw [hQd]; unfold Lib.trimPrefix; rw [htt]; rfl
    have HCP := Lib.hid hcp
    clear hcp htt hQ hQd
    rw [← hQ2]
    cases hq : rdT Q.data.toList with
    | none =>
      rw [hq] at hrt
      have hrt : ∀ w, Calls Tryz.prog 86 #[.string Q] w fun e w' => e = .returned (.tuple #[.int .i64 0, .string ⟨#[]⟩, .string ⟨#[]⟩, .bool false]) ∧ ∃ n, w' = w.drewN n := hrt
      have HRT := Lib.hid hrt
      clear hrt hq hQ2 hsz
      dsimp only
      go_enter Tryz.func36, Tryz.ntmps36
      go_wp2_with (first | (go_at_call 84; (with_reducible refine (HRD.out _).mono ?_); rintro e w3 ⟨rfl, hb3⟩; (have R3 := (Res1.start 76 #[.int .i64 0, .string ⟨#[]⟩, .bool false, .int .i64 0, .string ⟨#[]⟩] w).next hb3); (have c30 : w3.cell? ⟨w.heap.size, 0, none⟩ = some (.int .i64 0) := R3.cell 0); (have c31 : w3.cell? ⟨w.heap.size, 1, none⟩ = some (.string ⟨#[]⟩) := R3.cell 1); (have c32 : w3.cell? ⟨w.heap.size, 2, none⟩ = some (.bool false) := R3.cell 2); (have c33 : w3.cell? ⟨w.heap.size, 3, none⟩ = some (.int .i64 0) := R3.cell 3); (have c34 : w3.cell? ⟨w.heap.size, 4, none⟩ = some (.string ⟨#[]⟩) := R3.cell 4); (have f3 : ∀ i, w3.frozen? ⟨w.heap.size, i, none⟩ = false := R3.frozen)) | (go_at_call 85; (with_reducible refine (HCP.out _).mono ?_); rintro e w' ⟨rfl, rfl⟩) | (go_at_call 86; (with_reducible refine (HRT.out _).mono ?_); rintro e w' ⟨rfl, n9, rfl⟩))
      refine bodyPost_ret (v := .tuple #[.agg #[.int .i64 0, .string ⟨#[]⟩, .bool false, .int .i64 0, .string ⟨#[]⟩], .bool false]) (by simp [results, Tryz.results36, go_sem, c30, c31, c32, c33, c34]) rfl ⟨mtZ, rfl, mtO_none _, ?_⟩
      repeat (first | exact R3.below | with_reducible refine below_drewN ?_ _ | (with_reducible refine Below.setCell ?_ (by simp) _))
    | some x =>
    obtain ⟨c, p, z⟩ := x
    obtain ⟨⟨hb1, hb2⟩, hbp, hbl⟩ := rdT_bd hq
    rw [hQ2, List.length_drop] at hbl hbp
    obtain ⟨P, hP⟩ : ∃ P : ByteArray, P = ⟨p.toArray⟩ := ⟨_, rfl⟩
    obtain ⟨Z, hZ⟩ : ∃ Z : ByteArray, Z = ⟨z.toArray⟩ := ⟨_, rfl⟩
    have hPd : P.data.toList = p := by rw [hP]
    have hZd : Z.data.toList = z := by rw [hZ]
    have hZs : Z.size ≤ 4000000000 := by rw [Lib.size_eq, hZd]; omega
    rw [hq] at hrt
    have hrt : ∀ w, Calls Tryz.prog 86 #[.string Q] w fun e w' => e = .returned (.tuple #[.int .i64 c, .string P, .string Z, .bool true]) ∧ ∃ n, w' = w.drewN n := fun w => by rw [hZ, hP]; exact hrt w
    have hin := fun w => in_calls (n * 86400 + c) P Z w hZs
    rw [hZd, hPd] at hin
    obtain ⟨m, hm⟩ : ∃ m, m = inV (n * 86400 + c) p z := ⟨_, rfl⟩
    obtain ⟨ok, hok⟩ : ∃ b, b = (rdZ z).isSome := ⟨_, rfl⟩
    dsimp only
    have hin : ∀ w, Calls Tryz.prog 87 #[.agg #[.int .i64 (n * 86400 + c), .string P, .bool false, .int .i64 0, .string ⟨#[]⟩], .string Z] w fun e w' => e = .returned (.tuple #[m.val, .bool ok]) ∧ Below w.heap.size w w' := fun w => by rw [hm, hok]; exact hin w
    have hmo := mtO_in (n * 86400 + c) p z
    have his := inP_some (n * 86400 + c) p z
    rw [← hm] at hmo
    rw [← hok] at his
    obtain ⟨O, hO⟩ : ∃ O, O = inP (n * 86400 + c) p z := ⟨_, rfl⟩
    rw [← hO] at hmo his ⊢
    obtain ⟨ms, mp, mz, mn, mq⟩ := m
    have HMO := Lib.hid hmo
    have HIS := Lib.hid his
    unfold Mt.val at hin
    dsimp only at hin
    have HIN := Lib.hid hin
    have HRT := Lib.hid hrt
    clear hrt hq hsz hin hm hok hmo his hZ hZd hP hPd hbl hbp hbr hO hQ2
    go_enter Tryz.func36, Tryz.ntmps36
    go_wp2_with (first | (go_at_call 84; (with_reducible refine (HRD.out _).mono ?_); rintro e w3 ⟨rfl, hb3⟩; (have R3 := (Res1.start 76 #[.int .i64 0, .string ⟨#[]⟩, .bool false, .int .i64 0, .string ⟨#[]⟩] w).next hb3); (have c30 : w3.cell? ⟨w.heap.size, 0, none⟩ = some (.int .i64 0) := R3.cell 0); (have c31 : w3.cell? ⟨w.heap.size, 1, none⟩ = some (.string ⟨#[]⟩) := R3.cell 1); (have c32 : w3.cell? ⟨w.heap.size, 2, none⟩ = some (.bool false) := R3.cell 2); (have c33 : w3.cell? ⟨w.heap.size, 3, none⟩ = some (.int .i64 0) := R3.cell 3); (have c34 : w3.cell? ⟨w.heap.size, 4, none⟩ = some (.string ⟨#[]⟩) := R3.cell 4); (have f3 : ∀ i, w3.frozen? ⟨w.heap.size, i, none⟩ = false := R3.frozen)) | (go_at_call 85; (with_reducible refine (HCP.out _).mono ?_); rintro e w' ⟨rfl, rfl⟩) | (go_at_call 86; (with_reducible refine (HRT.out _).mono ?_); rintro e w' ⟨rfl, n9, rfl⟩) | (go_at_call 87; (with_reducible refine (HIN.out _).mono ?_); rintro e w4 ⟨rfl, hb4⟩; (have R4 := (R3.drewN _).next hb4); (have c40 : w4.cell? ⟨w.heap.size, 0, none⟩ = some (.int .i64 0) := R4.cell 0); (have c41 : w4.cell? ⟨w.heap.size, 1, none⟩ = some (.string ⟨#[]⟩) := R4.cell 1); (have c42 : w4.cell? ⟨w.heap.size, 2, none⟩ = some (.bool false) := R4.cell 2); (have c43 : w4.cell? ⟨w.heap.size, 3, none⟩ = some (.int .i64 0) := R4.cell 3); (have c44 : w4.cell? ⟨w.heap.size, 4, none⟩ = some (.string ⟨#[]⟩) := R4.cell 4); (have f4 : ∀ i, w4.frozen? ⟨w.heap.size, i, none⟩ = false := R4.frozen)))
    refine bodyPost_ret (v := .tuple #[.agg #[.int .i64 ms, .string ⟨mp.toArray⟩, .bool mz, .int .i64 mn, .string ⟨mq.toArray⟩], .bool ok]) (by simp [results, Tryz.results36, go_sem, c40, c41, c42, c43, c44]) rfl ⟨⟨ms, mp, mz, mn, mq⟩, by rw [HIS.out]; rfl, HMO.out, ?_⟩
    repeat (first | exact R4.below | with_reducible refine below_drewN ?_ _ | (with_reducible refine Below.setCell ?_ (by simp) _))
end Go.Proofs.YtlhcejbimlilaaaGreatDoor
