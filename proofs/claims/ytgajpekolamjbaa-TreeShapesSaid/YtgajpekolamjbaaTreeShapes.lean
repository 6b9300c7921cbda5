/- TreeShapes: all sixteen shapes. -/
import Derived.Test.YtgajpekolamjbaaTzS
import Derived.Test.YtgajpekolamjbaaTzC
import Derived.Test.YtgajpekolamjbaaTxC
import Derived.Test.YtgajpekolamjbaaTxD
set_option linter.unusedVariables false
set_option linter.unusedSimpArgs false
namespace Go.Proofs.Ytgajpekolamjbaa
open Go Go.RowKit Go.Tk
/-- The quads of a tree, as they are seen. -/
theorem qW_at {L : List Qd} {t : Nat} (h : t < L.length) (R : Right L) : sqQ (qW L t) = qAt L t := by
  have key : ∀ j, j < 4 → ((((qAt L t).at j).toNat : Nat) : Int) = (qAt L t).at j := fun j hj => by
    have := (okQ_at (R.ok t h) j).1
    have h2 : 0 ≤ (qAt L t).at j := this
    omega
  exact qd_ext (fun j hj => by
    have := key j hj
    rcases (by omega : j = 0 ∨ j = 1 ∨ j = 2 ∨ j = 3) with rfl | rfl | rfl | rfl <;> exact this)
theorem agS_succ' (L : List Qd) (p : Qd) (i : Nat) : agS L p (i + 1) = agS L p i ++ if agK p (qAt L i) 4 = true then [i] else [] := by
  unfold agS
  rw [seg_app (show 0 ≤ i by omega) (show i ≤ i + 1 by omega), List.filter_append, seg_one]
  by_cases h : agK p (qAt L i) 4 = true
  · rw [if_pos h]; simp [h]
  · rw [if_neg h]; simp [h]
set_option maxRecDepth 100000 in
set_option maxHeartbeats 8000000 in
theorem tshapes_go (w : World) (a : Option Addr) (n c : Nat) (L : List Qd) (h : SlQ w a n c L) (hn : n ≤ 4398046510976) (q : Qd) :
    Calls Try.prog 7 #[.slice a n c, .agg #[.int .i64 q.a, .int .i64 q.b, .int .i64 q.c, .int .i64 q.d]] w fun e w' => e = .returned (.bool true) ∧ Below w.heap.size w w' := by
  have HB0 := Lib.hid (show Below w.heap.size w (w.alloc (.cells #[.int .i64 q.a, .int .i64 q.b, .int .i64 q.c, .int .i64 q.d] 24)) from (Below.refl _ _).alloc (Nat.le_refl _) _)
  have HGQ := Lib.hid (heap_alloc_new w (.cells #[.int .i64 q.a, .int .i64 q.b, .int .i64 q.c, .int .i64 q.d] 24))
  obtain ⟨R, hR⟩ : ∃ R, R = risL L := ⟨_, rfl⟩
  have HRI := Lib.hid (fun W (hb : Below w.heap.size w W) => rising_calls W a n c L (h.keep hb) hn)
  simp only [← hR] at HRI
  have HRR := Lib.hid hR
  have SZ := Lib.hid Try.sizeIds
  obtain ⟨i0, hi0, hz0, hz1, hz2⟩ := info_parts Try.infoSeen
  have HI := Lib.hid hi0
  have HZ0 := Lib.hid hz0
  have HZ1 := Lib.hid hz1
  have HZ2 := Lib.hid hz2
  clear h hR hi0 hz0 hz1 hz2
  go_enter Try.func7, Try.ntmps7
  go_upto_region 4 with (first
    | (go_at_call 20; (with_reducible refine (works_calls _).mono ?_); rintro e w1 ⟨rfl, hb⟩; (have HB1 := Lib.hid (HB0.out.trans (hb.mono HB0.out.size))); (have HQ1 := Lib.hid ((hb.block _ (by simp)).trans HGQ.out)); clear hb)
    | (go_at_call 14; (with_reducible refine (HRI.out w1 HB1.out).mono ?_); rintro e w2 ⟨v, rfl, how, hb⟩; obtain ⟨ra, rc, rfl, hrs, hrn⟩ := how.sl; (have HRS := Lib.hid hrs); (have HB2 := Lib.hid (HB1.out.trans (hb.mono HB1.out.size))); (have HQ2 := Lib.hid ((hb.block _ (Array.getElem?_eq_some_iff.1 HQ1.out).1).trans HQ1.out)); clear how hrs hb hrn))
  clear HQ1 HGQ HRI HB1 HB0
  by_cases hle : R.length ≤ 1048576
  rotate_left
  · have e9 : decide ((1048576 : Int) < (R.length : Int)) = true := decide_eq_true (by omega)
    go_wp2_with fail
    go_ret
    exact ⟨rfl, HB2.out⟩
  have e9 : decide ((1048576 : Int) < (R.length : Int)) = false := decide_eq_false (by omega)
  have hG : Right R := by rw [HRR.out] at hle ⊢; exact ris_right hle
  obtain ⟨bs, hbs⟩ := bytes_of (treeB_rg hG).1
  have HG := Lib.hid hG
  have HBLT := Lib.hid (blt_of hG hbs)
  have HMD := Lib.hid (made_calls w2 ra rc R hG HRS.out bs hbs)
  clear hG hbs
  go_upto_region 7 with (go_at_call 21; (with_reducible refine HMD.out.mono ?_); rintro e w3 ⟨gv, av, rfl, ⟨ta, tc, vp, hT⟩, _, _, _, hb⟩; (have HT := Lib.hid hT); (have HB3 := Lib.hid (HB2.out.trans (hb.mono HB2.out.size))); (have HQ3 := Lib.hid ((hb.block _ (Array.getElem?_eq_some_iff.1 HQ2.out).1).trans HQ2.out)); clear hT hb)
  clear HMD HQ2 HRS
  obtain ⟨N, hN⟩ : ∃ N, N = R.length := ⟨_, rfl⟩
  have hgs := take_sq HG.out (G := eachT bs 0) (ts := seg 0 R.length) (fun t ht => (seg_mem.1 ht).2) (by have := HBLT.out.each 0; simpa using this) (R.length + 1)
  have hwa := twalked_calls w3 gv bs ta tc vp HT.out 0 (by omega) (R.length + 1) (by omega) _ rfl
  rw [hgs.1, hgs.2, List.take_of_length_le (by rw [seg_len]; omega)] at hwa
  rw [← hN] at hwa hle e9 ⊢
  obtain ⟨W, hW⟩ : ∃ W, W = (seg 0 N).map (qW R) := ⟨_, rfl⟩
  rw [← hW] at hwa
  have hWl : W.length = N := by rw [hW, List.length_map, seg_len]; omega
  have hWa : ∀ t (h : t < W.length), W[t] = qW R t := fun t h => by
    subst hW
    rw [List.getElem_map]
    unfold seg
    rw [List.getElem_range']; congr 1; omega
  have hcast : ((N + 1 : Nat) : Int) = (N : Int) + 1 := by omega
  rw [hcast] at hwa
  have HWA := Lib.hid hwa
  have HN := Lib.hid hN
  have HWL := Lib.hid hWl
  have HWT := Lib.hid hWa
  clear hgs hwa hN hW hWl hWa hcast
  go_upto_region 10 with (go_at_call 26; (with_reducible refine HWA.out.mono ?_); rintro e w4 ⟨v4, rfl, hown, hb⟩; obtain ⟨xa, xc, rfl, hxc, hsn⟩ := SnAt.of hown; (have HSN := Lib.hid hsn); (have HB4 := Lib.hid (HB3.out.trans (hb.mono HB3.out.size))); (have HQ4 := Lib.hid ((hb.block _ (Array.getElem?_eq_some_iff.1 HQ3.out).1).trans HQ3.out)); (have HT4 := Lib.hid (HT.out.below hb)); clear hb hsn hown)
  rw [HWL.out] at hxc ⊢
  clear HT HQ3 HB3 HWA
  go_wp2_with fail
  go_loopw [10] (fun iv wr => ∃ i : Nat, iv = .int .i64 (i : Nat) ∧ i ≤ 16 ∧ Below w4.heap.size w4 wr) (fun iv _ => 16 - (intOf iv).toNat)
  case atStart => exact ⟨0, rfl, Nat.zero_le _, Below.refl _ _⟩
  case round =>
    obtain ⟨s, rfl, hs, hb⟩ := hrel
    have HBR := Lib.hid hb
    clear hb
    by_cases hs16 : s < 16
    rotate_left
    · obtain rfl : s = 16 := by omega
      go_wp2_with fail
      go_ret
      exact ⟨rfl, HB4.out.trans (HBR.out.mono HB4.out.size)⟩
    have rq := (HBR.out.block _ (Array.getElem?_eq_some_iff.1 HQ4.out).1).trans HQ4.out
    have q0 : wr.cell? ⟨w.heap.size, 0, none⟩ = some (.int .i64 q.a) := cell_of_row wr _ 0 _ _ _ rq
    have q1 : wr.cell? ⟨w.heap.size, 1, none⟩ = some (.int .i64 q.b) := cell_of_row wr _ 1 _ _ _ rq
    have q2 : wr.cell? ⟨w.heap.size, 2, none⟩ = some (.int .i64 q.c) := cell_of_row wr _ 2 _ _ _ rq
    have q3 : wr.cell? ⟨w.heap.size, 3, none⟩ = some (.int .i64 q.d) := cell_of_row wr _ 3 _ _ _ rq
    obtain ⟨p, hp⟩ : ∃ p, p = shQ q s := ⟨_, rfl⟩
    have hsh := shaped_calls wr q s hs16
    rw [← hp] at hsh
    have hsh2 : Calls Try.prog 27 #[.agg #[.int .i64 q.a, .int .i64 q.b, .int .i64 q.c, .int .i64 q.d], .int .i64 (s : Nat)] wr fun e w' => e = .returned (.agg #[.int .i64 p.a, .int .i64 p.b, .int .i64 p.c, .int .i64 p.d]) ∧ Below wr.heap.size wr w' := hsh
    have HSH := Lib.hid hsh2
    clear hsh hsh2 hp rq
    go_upto_region 16 with (go_at_call 27; (with_reducible refine HSH.out.mono ?_); rintro e w5 ⟨rfl, hb⟩; (have HB5 := Lib.hid hb); clear hb)
    clear q0 q1 q2 q3 HSH
    have hb6 : Below wr.heap.size wr (w5.alloc (.cells #[.int .i64 p.a, .int .i64 p.b, .int .i64 p.c, .int .i64 p.d] 24)) := HB5.out.alloc HB5.out.size _
    have r6 := heap_alloc_new w5 (.cells #[.int .i64 p.a, .int .i64 p.b, .int .i64 p.c, .int .i64 p.d] 24)
    generalize w5.alloc (.cells #[.int .i64 p.a, .int .i64 p.b, .int .i64 p.c, .int .i64 p.d] 24) = w6 at hb6 r6 ⊢
    generalize w5.heap.size = g6 at r6 ⊢
    have HB6 := Lib.hid (HBR.out.trans (hb6.mono HBR.out.size))
    have HR6 := Lib.hid r6
    clear hb6 r6 HB5
    go_wp2_with fail
    go_loopw [13, 12] (fun iv v wj => ∃ (i : Nat) (v' : Value), iv = .int .i64 (i : Nat) ∧ v = v' ∧ i ≤ N ∧ wj.ownsRow w6.heap.size 69 5 v' (agS R p i).length (sqCs ((agS R p i).map (qW R))) ∧ Below w6.heap.size w6 wj) (fun iv _ _ => N - (intOf iv).toNat)
    case atStart => exact ⟨0, _, rfl, rfl, Nat.zero_le _, by rw [show agS R p 0 = [] from rfl]; exact World.ownsRow_nil _ _ _ _, Below.refl _ _⟩
    case round =>
      rename World => wj
      obtain ⟨i, v, rfl, rfl, hi, hrow, hbj⟩ := hrel
      have HBJ := Lib.hid hbj
      have hzj := hbj.size
      obtain ⟨v1, vc, hv⟩ := ownsRow_slice hrow
      obtain ⟨m, hm⟩ : ∃ m, m = (agS R p i).length := ⟨_, rfl⟩
      have hmi : m ≤ i := by rw [hm]; exact agS_len R p i
      rw [← hm] at hv hrow
      subst hv
      have HROW := Lib.hid hrow
      have HM := Lib.hid hm
      clear hrow hm hbj
      by_cases hin : i < N
      · have hiW : i < W.length := by rw [HWL.out]; exact hin
        have hbx := HB6.out.trans (HBJ.out.mono HB6.out.size)
        obtain ⟨g, hga, hg1, hg2⟩ := (HSN.out.keep hbx) i hiW
        subst hga
        rw [HWT.out i hiW] at hg1 hg2
        have hsq := qW_at (L := R) (t := i) (by rw [← HN.out]; exact hin) HG.out
        obtain ⟨x, hx⟩ : ∃ x, x = qAt R i := ⟨_, rfl⟩
        rw [hsq, ← hx] at hg2
        have hgi : (qW R i).1 = i := rfl
        rw [hgi] at hg1
        obtain ⟨bb, hbb⟩ : ∃ bb, bb = agK p x 4 := ⟨_, rfl⟩
        have hsc := agS_succ' R p i
        rw [← hx, ← hbb] at hsc
        have hsn := sq_snoc HG.out (agS R p i) (t := i) (by rw [← HN.out]; exact hin)
        rw [← hx] at hsn
        have HSC := Lib.hid hsc
        have HSS := Lib.hid hsn
        have HG1 := Lib.hid hg1
        have HG2 := Lib.hid hg2
        have HBB := Lib.hid hbb
        have hpp : wj.rangeAt g6 0 (qcs p) := fun j v hv => by
          have hj : j < 4 := by have := (List.getElem?_eq_some_iff.1 hv).1; simpa [qcs] using this
          rw [Nat.zero_add, cell_of_row _ _ _ _ _ _ ((HBJ.out.block _ (Array.getElem?_eq_some_iff.1 HR6.out).1).trans HR6.out)]
          rcases (by omega : j = 0 ∨ j = 1 ∨ j = 2 ∨ j = 3) with rfl | rfl | rfl | rfl <;> exact hv
        have HPP := Lib.hid hpp
        clear hsq hsc hsn hg1 hg2 hbb hx hpp hbx hgi
        go_upto_region 20 with fail
        refine wp_region_quiet_all (fun w' => Below wj.heap.size wj w') (by kernel_rfl) (by kernel_rfl) (below_drewN (Below.refl _ _) 1) ?_
        refine WQ.h ?_
        refine wq_midD 60 rfl rfl 24 (.tmp 11) rfl g6 (0) (by simp [go_sem]) (qcs p) _ (fun w' h => range_keep HPP.out h) Try.underlying24 rfl SZ.out ?_
        simp only [List.setIfInBounds_toArray, List.set_cons_succ, List.set_cons_zero]
        refine wq_valD 61 (.slice (some ⟨g, 0, none⟩) N xc) rfl rfl (fun w' h => by simp [go_sem]) ?_
        simp only [List.setIfInBounds_toArray, List.set_cons_succ, List.set_cons_zero]
        refine wq_valD 62 (.int .i64 (i : Nat)) rfl rfl (fun w' h => by simp [go_sem]) ?_
        simp only [List.setIfInBounds_toArray, List.set_cons_succ, List.set_cons_zero]
        refine wq_valD 63 (.pointer (some ⟨g, i * 5, none⟩)) rfl rfl (fun w' h => by simp [go_sem, hin]) ?_
        simp only [List.setIfInBounds_toArray, List.set_cons_succ, List.set_cons_zero]
        refine wq_valD 64 (.pointer (some ⟨g, i * 5 + 1, none⟩)) rfl rfl (fun w' h => by simp [go_sem]) ?_
        simp only [List.setIfInBounds_toArray, List.set_cons_succ, List.set_cons_zero]
        refine wq_midD 65 rfl rfl 24 (.tmp 64) rfl g (i * 5 + 1) (by simp [go_sem]) (qcs x) _ (fun w' h => range_keep HG2.out h) Try.underlying24 rfl SZ.out ?_
        simp only [List.setIfInBounds_toArray, List.set_cons_succ, List.set_cons_zero]
        refine wq_callD 66 (.bool bb) 28 #[qv p, qv x] rfl rfl (fun w' => by simp [go_sem, qv, qcs]) (fun w' h => by rw [HBB.out]; exact (agrees_calls w' p x).mono fun e w2 ⟨h1, h2⟩ => ⟨h1, h.trans (h2.mono h.size)⟩) ?_
        simp only [List.setIfInBounds_toArray, List.set_cons_succ, List.set_cons_zero]
        refine wq_nilD ?_
        intro w7 hb7
        have hz7 := hb7.size
        have HB7 := Lib.hid (HBJ.out.trans (hb7.mono hzj))
        have HRW7 := Lib.hid (row_below HROW.out hb7)
        have y0 := (hb7.cell (p := ⟨g, i * 5, none⟩) (block_lt_of_cell HG1.out)).trans HG1.out
        have hq7 := range_keep HG2.out hb7
        have y1 : w7.cell? ⟨g, i * 5 + 1, none⟩ = some (.int .i64 x.a) := hq7 0 _ rfl
        have y2 : w7.cell? ⟨g, i * 5 + 1 + 1, none⟩ = some (.int .i64 x.b) := hq7 1 _ rfl
        have y3 : w7.cell? ⟨g, i * 5 + 1 + 2, none⟩ = some (.int .i64 x.c) := hq7 2 _ rfl
        have y4 : w7.cell? ⟨g, i * 5 + 1 + 3, none⟩ = some (.int .i64 x.d) := hq7 3 _ rfl
        clear hb7 hq7
        cases bb with
        | false =>
          have hsc := HSC.out
          rw [if_neg (by simp), List.append_nil] at hsc
          have HSC2 := Lib.hid hsc
          clear hsc
          go_wp2_with fail
          exact ⟨⟨i + 1, _, by go_num, rfl, by omega, by rw [HSC2.out, ← HM.out]; exact HRW7.out, HB7.out⟩, by simp [intOf]; omega⟩
        | true =>
          have hsc := HSC.out
          rw [if_pos rfl] at hsc
          have HSC2 := Lib.hid hsc
          clear hsc
          go_wp2_with (at_builtin; (refine wpList_append_own _ rfl _ _ 63 rfl w6.heap.size 69 i0 (.agg #[.int .i64 0, .int .i64 0, .int .i64 0, .int .i64 0, .int .i64 0]) 5 40 Try.underlying63 HI.out HZ0.out HZ1.out HZ2.out rfl (by decide) _ _ _ rfl (HRW7.out.alloc _) ⟨w7.heap.size, 0, none⟩ 1 1 [.int .i64 (i : Nat), .int .i64 x.a, .int .i64 x.b, .int .i64 x.c, .int .i64 x.d] rfl rfl (cells_new _ _ _) (by simp [Value.oneCell']) (by unfold maxLen; omega) (by omega) (by simp; omega) ?_; intro v' w9 hown' hgrow _; (have HR9 := Lib.hid hown'); (have HB9 := Lib.hid (row_grown HRW7.out (by omega) hgrow)); clear hown' hgrow))
          exact ⟨⟨i + 1, v', by go_num, rfl, by omega, by rw [HSC2.out, HSS.out, List.length_append, ← HM.out]; exact HR9.out, HB7.out.trans (HB9.out.mono (Nat.le_refl _))⟩, by simp [intOf]; omega⟩
      · obtain rfl : i = N := by omega
        have hbx := HB6.out.trans (HBJ.out.mono HB6.out.size)
        have hgm := take_sq HG.out (G := matchT bs p) (ts := agS R p R.length) (fun t ht => by
          unfold agS at ht
          exact (seg_mem.1 (List.mem_filter.1 ht).1).2) (HBLT.out.match p) (i + 1)
        have hw := tmatched_calls wj gv bs ta tc vp (HT4.out.below hbx) p (i + 1) (by omega) _ rfl
        rw [hgm.1, hgm.2, ← HN.out, List.take_of_length_le (by rw [← HM.out]; omega)] at hw
        obtain ⟨V, hV⟩ : ∃ V, V = (agS R p i).map (qW R) := ⟨_, rfl⟩
        rw [← hV] at hw
        have hVl : V.length = m := by rw [hV, List.length_map, ← HM.out]
        have hcast : ((i + 1 : Nat) : Int) = (i : Int) + 1 := by omega
        rw [hcast, hVl] at hw
        have hw2 : Calls Try.prog 29 #[.pointer (some ⟨gv, 0, none⟩), .agg #[.int .i64 p.a, .int .i64 p.b, .int .i64 p.c, .int .i64 p.d], .int .i64 ((i : Int) + 1)] wj fun e w' => ∃ v, e = .returned (.tuple #[v, .bool true]) ∧ w'.ownsRow wj.heap.size 69 5 v m (sqCs V) ∧ Below wj.heap.size wj w' := hw
        have hrw : wj.ownsRow w6.heap.size 69 5 (.slice v1 m vc) m (sqCs V) := by rw [hV]; exact HROW.out
        have hct := fun X (hX : Below w4.heap.size w4 X) => tcount_calls X gv bs ta tc vp (HT4.out.below hX) p
        simp only [HBLT.out.count p, ← HN.out, ← HM.out] at hct
        have hct2 : ∀ X, Below w4.heap.size w4 X → Calls Try.prog 31 #[.pointer (some ⟨gv, 0, none⟩), .agg #[.int .i64 p.a, .int .i64 p.b, .int .i64 p.c, .int .i64 p.d]] X fun e w' => e = .returned (.int .i64 (m : Nat)) ∧ Below X.heap.size X w' := hct
        have HMA := Lib.hid hw2
        have HRW := Lib.hid hrw
        have HCT := Lib.hid hct2
        have HVL := Lib.hid hVl
        have HV := Lib.hid hV
        have HBX := Lib.hid hbx
        have rp := (HBJ.out.block _ (Array.getElem?_eq_some_iff.1 HR6.out).1).trans HR6.out
        have k0 : wj.cell? ⟨g6, 0, none⟩ = some (.int .i64 p.a) := cell_of_row wj _ 0 _ _ _ rp
        have k1 : wj.cell? ⟨g6, 1, none⟩ = some (.int .i64 p.b) := cell_of_row wj _ 1 _ _ _ rp
        have k2 : wj.cell? ⟨g6, 2, none⟩ = some (.int .i64 p.c) := cell_of_row wj _ 2 _ _ _ rp
        have k3 : wj.cell? ⟨g6, 3, none⟩ = some (.int .i64 p.d) := cell_of_row wj _ 3 _ _ _ rp
        have HRP := Lib.hid rp
        have he : ((m : Int) != (m : Int)) = false := by simp
        clear hgm hw hV hVl hcast hw2 hrw hct hct2 hbx rp HROW
        go_upto_region 23 with (go_at_call 29; (with_reducible refine HMA.out.mono ?_); rintro e w8 ⟨v8, rfl, hown, hb⟩; obtain ⟨ya, yc, rfl⟩ := ownsRow_slice hown; (have HO8 := Lib.hid hown); (have HB8 := Lib.hid (HBX.out.trans (hb.mono HBX.out.size))); (have HRW8 := Lib.hid (row_below HRW.out hb)); (have HRP8 := Lib.hid ((hb.block _ (Array.getElem?_eq_some_iff.1 HRP.out).1).trans HRP.out)); clear hb hown)
        clear k0 k1 k2 k3 HMA HRW HRP
        have hsm := sameSeen_calls w8 _ _ _ _ V (by rw [HVL.out]; omega) (by rw [HVL.out]; exact HO8.out) (by rw [HVL.out]; exact HRW8.out)
        have HSM := Lib.hid hsm
        clear hsm
        go_upto_region 25 with (first
          | (go_at_call 30; (with_reducible refine HSM.out.mono ?_); rintro e w9 ⟨rfl, nn, hw9⟩; (have HW9 := Lib.hid hw9); clear hw9; (have k0 : w9.cell? ⟨g6, 0, none⟩ = some (.int .i64 p.a) := by rw [HW9.out]; exact cell_of_row w8 _ 0 _ _ _ HRP8.out); (have k1 : w9.cell? ⟨g6, 1, none⟩ = some (.int .i64 p.b) := by rw [HW9.out]; exact cell_of_row w8 _ 1 _ _ _ HRP8.out); (have k2 : w9.cell? ⟨g6, 2, none⟩ = some (.int .i64 p.c) := by rw [HW9.out]; exact cell_of_row w8 _ 2 _ _ _ HRP8.out); (have k3 : w9.cell? ⟨g6, 3, none⟩ = some (.int .i64 p.d) := by rw [HW9.out]; exact cell_of_row w8 _ 3 _ _ _ HRP8.out); (have HB9 := Lib.hid (show Below w4.heap.size w4 w9 by rw [HW9.out]; exact below_drewN HB8.out _)))
          | (go_at_call 31; (with_reducible refine (HCT.out w9 HB9.out).mono ?_); rintro e wa ⟨rfl, hb⟩; (have HBA := Lib.hid (HB9.out.trans (hb.mono HB9.out.size))); (have HRPA := Lib.hid (show wa.heap[g6]? = some (.cells #[.int .i64 p.a, .int .i64 p.b, .int .i64 p.c, .int .i64 p.d] 24 (0, 0)) from (hb.block _ (by rw [HW9.out]; exact (Array.getElem?_eq_some_iff.1 HRP8.out).1)).trans (by rw [HW9.out]; exact HRP8.out))); (have HOA := Lib.hid (show wa.ownsRow wj.heap.size 69 5 (.slice ya m yc) m (sqCs V) from row_below (by rw [HW9.out]; exact HO8.out) hb)); clear hb k0 k1 k2 k3))
        clear HSM HCT HB9 HRP8 HO8 HRW8 HW9
        have hsn := SnAt.of (R := V) (by rw [HVL.out]; exact HOA.out)
        obtain ⟨ga, gc, hsl, hgc, hsn⟩ := hsn
        rw [HVL.out] at hsl hgc
        injection hsl with hs1 hs2 hs3
        subst hs1 hs3
        have HSV := Lib.hid hsn
        have hpp : wa.rangeAt g6 0 (qcs p) := fun j v hv => by
          have hj : j < 4 := by have := (List.getElem?_eq_some_iff.1 hv).1; simpa [qcs] using this
          rw [Nat.zero_add, cell_of_row _ _ _ _ _ _ HRPA.out]
          rcases (by omega : j = 0 ∨ j = 1 ∨ j = 2 ∨ j = 3) with rfl | rfl | rfl | rfl <;> exact hv
        have HPP := Lib.hid hpp
        obtain ⟨fq, hfq⟩ : ∃ fq, fq = frQ p := ⟨_, rfl⟩
        have HFQ := Lib.hid hfq
        have hza := HBA.out.size
        clear hsn hpp hfq hs2
        cases fq with
        | false =>
          refine wp_region_quiet_all (fun w' => Below wa.heap.size wa w') (by kernel_rfl) (by kernel_rfl) (below_drewN (Below.refl _ _) 1) ?_
          refine WQ.h ?_
          refine wq_midD 99 rfl rfl 24 (.tmp 11) rfl g6 (0) (by simp [go_sem]) (qcs p) _ (fun w' h => range_keep HPP.out h) Try.underlying24 rfl SZ.out ?_
          simp only [List.setIfInBounds_toArray, List.set_cons_succ, List.set_cons_zero]
          refine wq_callD 100 (.bool false) 32 #[qv p] rfl rfl (fun w' => by simp [go_sem, qv, qcs]) (fun w' h => by have := front_calls w' p; rw [← HFQ.out] at this; exact this.mono fun e w2 ⟨h1, h2⟩ => ⟨h1, h.trans (h2.mono h.size)⟩) ?_
          simp only [List.setIfInBounds_toArray, List.set_cons_succ, List.set_cons_zero]
          refine wq_valD 101 (.bool false) rfl rfl (fun w' h => by simp [go_sem]) ?_
          simp only [List.setIfInBounds_toArray, List.set_cons_succ, List.set_cons_zero]
          refine wq_skipD 102 rfl rfl ?_
          simp only [List.setIfInBounds_toArray, List.set_cons_succ, List.set_cons_zero]
          refine wq_skipD 103 rfl rfl ?_
          simp only [List.setIfInBounds_toArray, List.set_cons_succ, List.set_cons_zero]
          refine wq_skipD 104 rfl rfl ?_
          simp only [List.setIfInBounds_toArray, List.set_cons_succ, List.set_cons_zero]
          refine wq_valD 105 (.bool false) rfl rfl (fun w' h => by simp [go_sem]) ?_
          simp only [List.setIfInBounds_toArray, List.set_cons_succ, List.set_cons_zero]
          refine wq_valD 106 (.bool false) rfl rfl (fun w' h => by simp [go_sem]) ?_
          simp only [List.setIfInBounds_toArray, List.set_cons_succ, List.set_cons_zero]
          refine wq_skipD 107 rfl rfl ?_
          simp only [List.setIfInBounds_toArray, List.set_cons_succ, List.set_cons_zero]
          refine wq_skipD 108 rfl rfl ?_
          simp only [List.setIfInBounds_toArray, List.set_cons_succ, List.set_cons_zero]
          refine wq_skipD 109 rfl rfl ?_
          simp only [List.setIfInBounds_toArray, List.set_cons_succ, List.set_cons_zero]
          refine wq_skipD 110 rfl rfl ?_
          simp only [List.setIfInBounds_toArray, List.set_cons_succ, List.set_cons_zero]
          refine wq_skipD 111 rfl rfl ?_
          simp only [List.setIfInBounds_toArray, List.set_cons_succ, List.set_cons_zero]
          refine wq_skipD 112 rfl rfl ?_
          simp only [List.setIfInBounds_toArray, List.set_cons_succ, List.set_cons_zero]
          refine wq_skipD 113 rfl rfl ?_
          simp only [List.setIfInBounds_toArray, List.set_cons_succ, List.set_cons_zero]
          refine wq_skipD 114 rfl rfl ?_
          simp only [List.setIfInBounds_toArray, List.set_cons_succ, List.set_cons_zero]
          refine wq_skipD 115 rfl rfl ?_
          simp only [List.setIfInBounds_toArray, List.set_cons_succ, List.set_cons_zero]
          refine wq_skipD 116 rfl rfl ?_
          simp only [List.setIfInBounds_toArray, List.set_cons_succ, List.set_cons_zero]
          refine wq_skipD 117 rfl rfl ?_
          simp only [List.setIfInBounds_toArray, List.set_cons_succ, List.set_cons_zero]
          refine wq_skipD 118 rfl rfl ?_
          simp only [List.setIfInBounds_toArray, List.set_cons_succ, List.set_cons_zero]
          refine wq_skipD 119 rfl rfl ?_
          simp only [List.setIfInBounds_toArray, List.set_cons_succ, List.set_cons_zero]
          refine wq_skipD 120 rfl rfl ?_
          simp only [List.setIfInBounds_toArray, List.set_cons_succ, List.set_cons_zero]
          refine wq_skipD 121 rfl rfl ?_
          simp only [List.setIfInBounds_toArray, List.set_cons_succ, List.set_cons_zero]
          refine wq_skipD 122 rfl rfl ?_
          simp only [List.setIfInBounds_toArray, List.set_cons_succ, List.set_cons_zero]
          refine wq_valD 123 (.bool false) rfl rfl (fun w' h => by simp [go_sem]) ?_
          simp only [List.setIfInBounds_toArray, List.set_cons_succ, List.set_cons_zero]
          refine wq_nilD ?_
          intro wb hbb
          have HBB2 := Lib.hid (HBA.out.trans (hbb.mono hza))
          clear hbb
          go_wp2_with fail
          go_roundw
          case rel => exact ⟨s + 1, by go_num, by omega, HBB2.out⟩
          case measure => simp [intOf]; omega
        | true =>
          by_cases hm0 : 0 < m
          · obtain ⟨s1, c1, e1, hl1⟩ := agS_front (right_ris HG.out) (p := p) HFQ.out.symm
            rw [← HN.out] at e1
            have hc1 : m = c1 := by rw [HM.out, e1, seg_len]; omega
            subst hc1
            have hat : ∀ j (h : j < V.length), (V[j].1 : Int) = ((s1 + j : Nat) : Int) := fun j h => by
              have hv := HV.out
              rw [e1] at hv
              subst hv
              rw [List.getElem_map]
              unfold seg qW
              rw [List.getElem_range']
              simp
            obtain ⟨m1, hm1⟩ : ∃ m1, m = m1 + 1 := ⟨m - 1, by omega⟩
            obtain ⟨g, hga, f0, _⟩ := HSV.out 0 (by rw [HVL.out]; omega)
            subst hga
            obtain ⟨g', hga, f1, _⟩ := HSV.out m1 (by rw [HVL.out]; omega)
            cases hga
            rw [hat 0 (by rw [HVL.out]; omega)] at f0
            rw [hat m1 (by rw [HVL.out]; omega)] at f1
            rw [Nat.zero_mul, Nat.add_zero] at f0
            have hl2 : s1 + m1 ≤ 1048576 := by have := HN.out; omega
            have hmm1 : m1 < m := by omega
            have HF0 := Lib.hid f0
            have HF1 := Lib.hid f1
            have HE1 := Lib.hid e1
            clear e1 hat f0 f1
            refine wp_region_quiet_all (fun w' => Below wa.heap.size wa w') (by kernel_rfl) (by kernel_rfl) (below_drewN (Below.refl _ _) 1) ?_
            refine WQ.h ?_
            refine wq_midD 99 rfl rfl 24 (.tmp 11) rfl g6 (0) (by simp [go_sem]) (qcs p) _ (fun w' h => range_keep HPP.out h) Try.underlying24 rfl SZ.out ?_
            simp only [List.setIfInBounds_toArray, List.set_cons_succ, List.set_cons_zero]
            refine wq_callD 100 (.bool true) 32 #[qv p] rfl rfl (fun w' => by simp [go_sem, qv, qcs]) (fun w' h => by have := front_calls w' p; rw [← HFQ.out] at this; exact this.mono fun e w2 ⟨h1, h2⟩ => ⟨h1, h.trans (h2.mono h.size)⟩) ?_
            simp only [List.setIfInBounds_toArray, List.set_cons_succ, List.set_cons_zero]
            refine wq_valD 101 (.bool true) rfl rfl (fun w' h => by simp [go_sem]) ?_
            simp only [List.setIfInBounds_toArray, List.set_cons_succ, List.set_cons_zero]
            refine wq_valD 102 (.slice (some ⟨g, 0, none⟩) m yc) rfl rfl (fun w' h => by simp [go_sem]) ?_
            simp only [List.setIfInBounds_toArray, List.set_cons_succ, List.set_cons_zero]
            refine wq_valD 103 (.int .i64 (m : Nat)) rfl rfl (fun w' h => by simp [go_sem]) ?_
            simp only [List.setIfInBounds_toArray, List.set_cons_succ, List.set_cons_zero]
            refine wq_valD 104 (.bool true) rfl rfl (fun w' h => by simp [go_sem]; omega) ?_
            simp only [List.setIfInBounds_toArray, List.set_cons_succ, List.set_cons_zero]
            refine wq_valD 105 (.bool true) rfl rfl (fun w' h => by simp [go_sem]) ?_
            simp only [List.setIfInBounds_toArray, List.set_cons_succ, List.set_cons_zero]
            refine wq_valD 106 (.bool true) rfl rfl (fun w' h => by simp [go_sem]) ?_
            simp only [List.setIfInBounds_toArray, List.set_cons_succ, List.set_cons_zero]
            refine wq_valD 107 (.slice (some ⟨g, 0, none⟩) m yc) rfl rfl (fun w' h => by simp [go_sem]) ?_
            simp only [List.setIfInBounds_toArray, List.set_cons_succ, List.set_cons_zero]
            refine wq_valD 108 (.slice (some ⟨g, 0, none⟩) m yc) rfl rfl (fun w' h => by simp [go_sem]) ?_
            simp only [List.setIfInBounds_toArray, List.set_cons_succ, List.set_cons_zero]
            refine wq_valD 109 (.int .i64 (m : Nat)) rfl rfl (fun w' h => by simp [go_sem]) ?_
            simp only [List.setIfInBounds_toArray, List.set_cons_succ, List.set_cons_zero]
            refine wq_valD 110 (.int .i64 (m1 : Nat)) rfl rfl (fun w' h => by simp [go_sem, hm1]; rw [IntKind.wrap_i64]; omega) ?_
            simp only [List.setIfInBounds_toArray, List.set_cons_succ, List.set_cons_zero]
            refine wq_valD 111 (.pointer (some ⟨g, m1 * 5, none⟩)) rfl rfl (fun w' h => by simp [go_sem, hmm1]) ?_
            simp only [List.setIfInBounds_toArray, List.set_cons_succ, List.set_cons_zero]
            refine wq_valD 112 (.pointer (some ⟨g, m1 * 5, none⟩)) rfl rfl (fun w' h => by simp [go_sem]) ?_
            simp only [List.setIfInBounds_toArray, List.set_cons_succ, List.set_cons_zero]
            refine wq_valD 113 (.int .i64 (s1 + m1 : Nat)) rfl rfl (fun w' h => by have := (h.cell (p := ⟨g, m1 * 5, none⟩) (block_lt_of_cell HF1.out)).trans HF1.out; simp [go_sem, this]) ?_
            simp only [List.setIfInBounds_toArray, List.set_cons_succ, List.set_cons_zero]
            refine wq_valD 114 (.slice (some ⟨g, 0, none⟩) m yc) rfl rfl (fun w' h => by simp [go_sem]) ?_
            simp only [List.setIfInBounds_toArray, List.set_cons_succ, List.set_cons_zero]
            refine wq_valD 115 (.pointer (some ⟨g, 0, none⟩)) rfl rfl (fun w' h => by simp [go_sem, hm0]) ?_
            simp only [List.setIfInBounds_toArray, List.set_cons_succ, List.set_cons_zero]
            refine wq_valD 116 (.pointer (some ⟨g, 0, none⟩)) rfl rfl (fun w' h => by simp [go_sem]) ?_
            simp only [List.setIfInBounds_toArray, List.set_cons_succ, List.set_cons_zero]
            refine wq_valD 117 (.int .i64 (s1 : Nat)) rfl rfl (fun w' h => by have := (h.cell (p := ⟨g, 0, none⟩) (block_lt_of_cell HF0.out)).trans HF0.out; simp [go_sem, this]) ?_
            simp only [List.setIfInBounds_toArray, List.set_cons_succ, List.set_cons_zero]
            refine wq_valD 118 (.int .i64 (m1 : Nat)) rfl rfl (fun w' h => by simp [go_sem]; rw [IntKind.wrap_i64]; omega) ?_
            simp only [List.setIfInBounds_toArray, List.set_cons_succ, List.set_cons_zero]
            refine wq_valD 119 (.slice (some ⟨g, 0, none⟩) m yc) rfl rfl (fun w' h => by simp [go_sem]) ?_
            simp only [List.setIfInBounds_toArray, List.set_cons_succ, List.set_cons_zero]
            refine wq_valD 120 (.int .i64 (m : Nat)) rfl rfl (fun w' h => by simp [go_sem]) ?_
            simp only [List.setIfInBounds_toArray, List.set_cons_succ, List.set_cons_zero]
            refine wq_valD 121 (.int .i64 (m1 : Nat)) rfl rfl (fun w' h => by simp [go_sem, hm1]; rw [IntKind.wrap_i64]; omega) ?_
            simp only [List.setIfInBounds_toArray, List.set_cons_succ, List.set_cons_zero]
            refine wq_valD 122 (.bool false) rfl rfl (fun w' h => by simp [go_sem]) ?_
            simp only [List.setIfInBounds_toArray, List.set_cons_succ, List.set_cons_zero]
            refine wq_valD 123 (.bool false) rfl rfl (fun w' h => by simp [go_sem]) ?_
            simp only [List.setIfInBounds_toArray, List.set_cons_succ, List.set_cons_zero]
            refine wq_nilD ?_
            intro wb hbb
            have HBB2 := Lib.hid (HBA.out.trans (hbb.mono hza))
            clear hbb
            go_wp2_with fail
            go_roundw
            case rel => exact ⟨s + 1, by go_num, by omega, HBB2.out⟩
            case measure => simp [intOf]; omega
          · refine wp_region_quiet_all (fun w' => Below wa.heap.size wa w') (by kernel_rfl) (by kernel_rfl) (below_drewN (Below.refl _ _) 1) ?_
            refine WQ.h ?_
            refine wq_midD 99 rfl rfl 24 (.tmp 11) rfl g6 (0) (by simp [go_sem]) (qcs p) _ (fun w' h => range_keep HPP.out h) Try.underlying24 rfl SZ.out ?_
            simp only [List.setIfInBounds_toArray, List.set_cons_succ, List.set_cons_zero]
            refine wq_callD 100 (.bool true) 32 #[qv p] rfl rfl (fun w' => by simp [go_sem, qv, qcs]) (fun w' h => by have := front_calls w' p; rw [← HFQ.out] at this; exact this.mono fun e w2 ⟨h1, h2⟩ => ⟨h1, h.trans (h2.mono h.size)⟩) ?_
            simp only [List.setIfInBounds_toArray, List.set_cons_succ, List.set_cons_zero]
            refine wq_valD 101 (.bool true) rfl rfl (fun w' h => by simp [go_sem]) ?_
            simp only [List.setIfInBounds_toArray, List.set_cons_succ, List.set_cons_zero]
            refine wq_valD 102 (.slice ya m yc) rfl rfl (fun w' h => by simp [go_sem]) ?_
            simp only [List.setIfInBounds_toArray, List.set_cons_succ, List.set_cons_zero]
            refine wq_valD 103 (.int .i64 (m : Nat)) rfl rfl (fun w' h => by simp [go_sem]) ?_
            simp only [List.setIfInBounds_toArray, List.set_cons_succ, List.set_cons_zero]
            refine wq_valD 104 (.bool false) rfl rfl (fun w' h => by simp [go_sem]; omega) ?_
            simp only [List.setIfInBounds_toArray, List.set_cons_succ, List.set_cons_zero]
            refine wq_valD 105 (.bool false) rfl rfl (fun w' h => by simp [go_sem]) ?_
            simp only [List.setIfInBounds_toArray, List.set_cons_succ, List.set_cons_zero]
            refine wq_valD 106 (.bool false) rfl rfl (fun w' h => by simp [go_sem]) ?_
            simp only [List.setIfInBounds_toArray, List.set_cons_succ, List.set_cons_zero]
            refine wq_skipD 107 rfl rfl ?_
            simp only [List.setIfInBounds_toArray, List.set_cons_succ, List.set_cons_zero]
            refine wq_skipD 108 rfl rfl ?_
            simp only [List.setIfInBounds_toArray, List.set_cons_succ, List.set_cons_zero]
            refine wq_skipD 109 rfl rfl ?_
            simp only [List.setIfInBounds_toArray, List.set_cons_succ, List.set_cons_zero]
            refine wq_skipD 110 rfl rfl ?_
            simp only [List.setIfInBounds_toArray, List.set_cons_succ, List.set_cons_zero]
            refine wq_skipD 111 rfl rfl ?_
            simp only [List.setIfInBounds_toArray, List.set_cons_succ, List.set_cons_zero]
            refine wq_skipD 112 rfl rfl ?_
            simp only [List.setIfInBounds_toArray, List.set_cons_succ, List.set_cons_zero]
            refine wq_skipD 113 rfl rfl ?_
            simp only [List.setIfInBounds_toArray, List.set_cons_succ, List.set_cons_zero]
            refine wq_skipD 114 rfl rfl ?_
            simp only [List.setIfInBounds_toArray, List.set_cons_succ, List.set_cons_zero]
            refine wq_skipD 115 rfl rfl ?_
            simp only [List.setIfInBounds_toArray, List.set_cons_succ, List.set_cons_zero]
            refine wq_skipD 116 rfl rfl ?_
            simp only [List.setIfInBounds_toArray, List.set_cons_succ, List.set_cons_zero]
            refine wq_skipD 117 rfl rfl ?_
            simp only [List.setIfInBounds_toArray, List.set_cons_succ, List.set_cons_zero]
            refine wq_skipD 118 rfl rfl ?_
            simp only [List.setIfInBounds_toArray, List.set_cons_succ, List.set_cons_zero]
            refine wq_skipD 119 rfl rfl ?_
            simp only [List.setIfInBounds_toArray, List.set_cons_succ, List.set_cons_zero]
            refine wq_skipD 120 rfl rfl ?_
            simp only [List.setIfInBounds_toArray, List.set_cons_succ, List.set_cons_zero]
            refine wq_skipD 121 rfl rfl ?_
            simp only [List.setIfInBounds_toArray, List.set_cons_succ, List.set_cons_zero]
            refine wq_skipD 122 rfl rfl ?_
            simp only [List.setIfInBounds_toArray, List.set_cons_succ, List.set_cons_zero]
            refine wq_valD 123 (.bool false) rfl rfl (fun w' h => by simp [go_sem]) ?_
            simp only [List.setIfInBounds_toArray, List.set_cons_succ, List.set_cons_zero]
            refine wq_nilD ?_
            intro wb hbb
            have HBB2 := Lib.hid (HBA.out.trans (hbb.mono hza))
            clear hbb
            go_wp2_with fail
            go_roundw
            case rel => exact ⟨s + 1, by go_num, by omega, HBB2.out⟩
            case measure => simp [intOf]; omega
theorem tshapes_in (w : World) (a : Option Addr) (n c : Nat) (L : List Qd) (h : SlQ w a n c L) (hn : a = none → c = 0) (ho : ∀ q ∈ L, QdOk q) (hc : c ≤ 4398046510976) (q : Qd) :
    Calls Try.prog 7 #[.slice a n c, .agg #[.int .i64 q.a, .int .i64 q.b, .int .i64 q.c, .int .i64 q.d]] w fun e w' => e = .returned (.bool true) ∧ Below w.heap.size w w' :=
  tshapes_go w a n c L h (by have := h.le; omega) q
end Go.Proofs.Ytgajpekolamjbaa
