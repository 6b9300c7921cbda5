/- TreeInverse: numbers and quads are each other's inverse. -/
import Derived.Test.YtgajpekolamjbaaTxC
import Derived.Test.YtgajpekolamjbaaTxD
set_option linter.unusedVariables false
set_option linter.unusedSimpArgs false
namespace Go.Proofs.Ytgajpekolamjbaa
open Go Go.RowKit Go.Tk
set_option maxRecDepth 100000 in
set_option maxHeartbeats 4000000 in
theorem tinverse_go (w : World) (a : Option Addr) (n c : Nat) (L : List Qd) (h : SlQ w a n c L) (hn : n ≤ 4398046510976) (p q : Qd) :
    Calls Try.prog 5 #[.slice a n c, .agg #[.int .i64 p.a, .int .i64 p.b, .int .i64 p.c, .int .i64 p.d], .agg #[.int .i64 q.a, .int .i64 q.b, .int .i64 q.c, .int .i64 q.d]] w fun e w' => e = .returned (.bool true) ∧ Below w.heap.size w w' := by
  have HB0 := Lib.hid (show Below w.heap.size w ((w.alloc (.cells #[.int .i64 p.a, .int .i64 p.b, .int .i64 p.c, .int .i64 p.d] 24)).alloc (.cells #[.int .i64 q.a, .int .i64 q.b, .int .i64 q.c, .int .i64 q.d] 24)) from ((Below.refl _ _).alloc (Nat.le_refl _) _).alloc (by simp) _)
  have hgp : ((w.alloc (.cells #[.int .i64 p.a, .int .i64 p.b, .int .i64 p.c, .int .i64 p.d] 24)).alloc (.cells #[.int .i64 q.a, .int .i64 q.b, .int .i64 q.c, .int .i64 q.d] 24)).heap[w.heap.size]? = some (.cells #[.int .i64 p.a, .int .i64 p.b, .int .i64 p.c, .int .i64 p.d] 24 (0, 0)) := (Below.heap_alloc _ _ _ (by simp)).trans (heap_alloc_new w _)
  have hgq := heap_alloc_new (w.alloc (.cells #[.int .i64 p.a, .int .i64 p.b, .int .i64 p.c, .int .i64 p.d] 24)) (.cells #[.int .i64 q.a, .int .i64 q.b, .int .i64 q.c, .int .i64 q.d] 24)
  have hzb : ((w.alloc (.cells #[.int .i64 p.a, .int .i64 p.b, .int .i64 p.c, .int .i64 p.d] 24)).alloc (.cells #[.int .i64 q.a, .int .i64 q.b, .int .i64 q.c, .int .i64 q.d] 24)).heap.size = w.heap.size + 2 := by simp
  have hzp : (w.alloc (.cells #[.int .i64 p.a, .int .i64 p.b, .int .i64 p.c, .int .i64 p.d] 24)).heap.size = w.heap.size + 1 := by simp
  rw [hzp] at hgq
  obtain ⟨R, hR⟩ : ∃ R, R = risL L := ⟨_, rfl⟩
  have HRI := Lib.hid (fun W (hb : Below w.heap.size w W) => rising_calls W a n c L (h.keep hb) hn)
  simp only [← hR] at HRI
  have HRR := Lib.hid hR
  have HGP := Lib.hid hgp
  have HGQ := Lib.hid hgq
  have HZB := Lib.hid hzb
  clear h hR hgp hgq hzb hzp
  go_enter Try.func5, Try.ntmps5
  go_upto_region 4 with (first
    | (go_at_call 20; (with_reducible refine (works_calls _).mono ?_); rintro e w1 ⟨rfl, hb⟩; (have HB1 := Lib.hid (HB0.out.trans (hb.mono HB0.out.size))); (have HP1 := Lib.hid ((hb.block _ (by have := HZB.out; omega)).trans HGP.out)); (have HQ1 := Lib.hid ((hb.block _ (by have := HZB.out; omega)).trans HGQ.out)); clear hb)
    | (go_at_call 14; (with_reducible refine (HRI.out w1 HB1.out).mono ?_); rintro e w2 ⟨v, rfl, how, hb⟩; obtain ⟨ra, rc, rfl, hrs, hrn⟩ := how.sl; (have HRS := Lib.hid hrs); (have HB2 := Lib.hid (HB1.out.trans (hb.mono HB1.out.size))); (have HP2 := Lib.hid ((hb.block _ (Array.getElem?_eq_some_iff.1 HP1.out).1).trans HP1.out)); (have HQ2 := Lib.hid ((hb.block _ (Array.getElem?_eq_some_iff.1 HQ1.out).1).trans HQ1.out)); clear how hrs hb hrn))
  clear HP1 HQ1 HGP HGQ HRI HB1 HB0
  by_cases hle : R.length ≤ 1048576
  rotate_left
  · have e9 : decide ((1048576 : Int) < (R.length : Int)) = true := decide_eq_true (by omega)
    go_wp2_with fail
    go_ret
    exact ⟨rfl, HB2.out⟩
  have e9 : decide ((1048576 : Int) < (R.length : Int)) = false := decide_eq_false (by omega)
  have hG : Right R := by rw [HRR.out] at hle ⊢; exact ris_right hle
  obtain ⟨bs, hbs⟩ := bytes_of (treeB_rg hG).1
  have HG := Lib.hid hG
  have HBLT := Lib.hid (blt_of hG hbs)
  have HMD := Lib.hid (made_calls w2 ra rc R hG HRS.out bs hbs)
  clear hG hbs
  go_upto_region 7 with (go_at_call 21; (with_reducible refine HMD.out.mono ?_); rintro e w3 ⟨gv, av, rfl, ⟨ta, tc, vp, hT⟩, _, _, _, hb⟩; (have HT := Lib.hid hT); (have HB3 := Lib.hid (HB2.out.trans (hb.mono HB2.out.size))); (have HP3 := Lib.hid ((hb.block _ (Array.getElem?_eq_some_iff.1 HP2.out).1).trans HP2.out)); (have HQ3 := Lib.hid ((hb.block _ (Array.getElem?_eq_some_iff.1 HQ2.out).1).trans HQ2.out)); (have HS3 := Lib.hid (HRS.out.keep hb)); clear hT hb)
  clear HMD HP2 HQ2 HRS
  have e3 : tN bs 3 = R.length := by have := HBLT.out.n 3 (by omega); rw [posL_three HG.out _ (Nat.le_refl _)] at this; exact this
  have HLN := Lib.hid (tlen_calls HT.out)
  rw [e3] at HLN
  clear e3
  go_wp2_with (go_at_call 22; (with_reducible refine HLN.out.mono ?_); rintro e x ⟨rfl, rfl⟩)
  have HRP := Lib.hid (right_ris HG.out)
  clear HLN
  rename World => w3
  go_loopw [10] (fun iv wr => ∃ i : Nat, iv = .int .i64 (i : Nat) ∧ i ≤ R.length ∧ Below w3.heap.size w3 wr) (fun iv _ => R.length - (intOf iv).toNat)
  case atStart => exact ⟨0, rfl, Nat.zero_le _, Below.refl _ _⟩
  case round =>
    obtain ⟨i, rfl, hi, hbr⟩ := hrel
    have HBR := Lib.hid hbr
    clear hbr
    by_cases hin : i < R.length
    · obtain ⟨x, hx⟩ : ∃ x, x = qAt R i := ⟨_, rfl⟩
      obtain ⟨bq, oq, hab, hcq⟩ := (HS3.out.keep HBR.out).cell i hin
      subst hab
      have hcq2 : wr.rangeAt bq (oq + i * 4) (qcs x) := by rw [hx]; exact hcq
      have HC := Lib.hid hcq2
      have hget := get_at wr gv bs ta tc vp (HT.out.below HBR.out) R HBLT.out i hin
      rw [← hx] at hget
      have hget2 : Calls Try.prog 23 #[.pointer (some ⟨gv, 0, none⟩), .int .i64 (i : Nat)] wr fun e w' => e = .returned (.tuple #[.agg #[.int .i64 x.a, .int .i64 x.b, .int .i64 x.c, .int .i64 x.d], .bool true]) ∧ Below wr.heap.size wr w' := hget
      have HGET := Lib.hid hget2
      have hfx : fndN R x = i ∧ isN R x = true := by rw [hx]; exact ⟨fndN_self HRP.out hin, isN_self HRP.out hin⟩
      have HFX := Lib.hid hfx
      have hlc := HS3.out.le
      have hmc := HS3.out.max
      clear hx hcq hcq2 hget hget2 hfx
      go_upto_region 13 with (go_at_call 23; (with_reducible refine HGET.out.mono ?_); rintro e w5 ⟨rfl, hb⟩; (have HB5 := Lib.hid hb); clear hb)
      have hb6 : Below wr.heap.size wr (w5.alloc (.cells #[.int .i64 x.a, .int .i64 x.b, .int .i64 x.c, .int .i64 x.d] 24)) := HB5.out.alloc HB5.out.size _
      have r6 := heap_alloc_new w5 (.cells #[.int .i64 x.a, .int .i64 x.b, .int .i64 x.c, .int .i64 x.d] 24)
      generalize w5.alloc (.cells #[.int .i64 x.a, .int .i64 x.b, .int .i64 x.c, .int .i64 x.d] 24) = w6 at hb6 r6 ⊢
      generalize w5.heap.size = g6 at r6 ⊢
      have hc6 := range_keep HC.out hb6
      have j0 : w6.cell? ⟨bq, oq + i * 4, none⟩ = some (.int .i64 x.a) := hc6 0 _ rfl
      have j1 : w6.cell? ⟨bq, oq + i * 4 + 1, none⟩ = some (.int .i64 x.b) := hc6 1 _ rfl
      have j2 : w6.cell? ⟨bq, oq + i * 4 + 2, none⟩ = some (.int .i64 x.c) := hc6 2 _ rfl
      have j3 : w6.cell? ⟨bq, oq + i * 4 + 3, none⟩ = some (.int .i64 x.d) := hc6 3 _ rfl
      have HB6 := Lib.hid hb6
      have HR6 := Lib.hid r6
      have HC6 := Lib.hid hc6
      have hfnd := find_at w6 gv bs ta tc vp ((HT.out.below HBR.out).below hb6) R HBLT.out x
      rw [HFX.out.1, HFX.out.2] at hfnd
      have hfnd2 : Calls Try.prog 24 #[.pointer (some ⟨gv, 0, none⟩), .agg #[.int .i64 x.a, .int .i64 x.b, .int .i64 x.c, .int .i64 x.d]] w6 fun e w' => e = .returned (.tuple #[.int .i64 (i : Nat), .bool true]) ∧ Below w6.heap.size w6 w' := hfnd
      have HFND := Lib.hid hfnd2
      clear hb6 r6 hc6 hfnd hfnd2
      go_upto_region 14 with (go_at_call 24; (with_reducible refine HFND.out.mono ?_); rintro e w7 ⟨rfl, hb⟩; (have HB7 := Lib.hid hb); clear hb)
      clear j0 j1 j2 j3
      have hc7 := range_keep HC6.out HB7.out
      have j0 : w7.cell? ⟨bq, oq + i * 4, none⟩ = some (.int .i64 x.a) := hc7 0 _ rfl
      have j1 : w7.cell? ⟨bq, oq + i * 4 + 1, none⟩ = some (.int .i64 x.b) := hc7 1 _ rfl
      have j2 : w7.cell? ⟨bq, oq + i * 4 + 2, none⟩ = some (.int .i64 x.c) := hc7 2 _ rfl
      have j3 : w7.cell? ⟨bq, oq + i * 4 + 3, none⟩ = some (.int .i64 x.d) := hc7 3 _ rfl
      have r7 := (HB7.out.block _ (Array.getElem?_eq_some_iff.1 HR6.out).1).trans HR6.out
      have k0 : w7.cell? ⟨g6, 0, none⟩ = some (.int .i64 x.a) := cell_of_row w7 g6 0 _ _ _ r7
      have k1 : w7.cell? ⟨g6, 1, none⟩ = some (.int .i64 x.b) := cell_of_row w7 g6 1 _ _ _ r7
      have k2 : w7.cell? ⟨g6, 2, none⟩ = some (.int .i64 x.c) := cell_of_row w7 g6 2 _ _ _ r7
      have k3 : w7.cell? ⟨g6, 3, none⟩ = some (.int .i64 x.d) := cell_of_row w7 g6 3 _ _ _ r7
      have heq : ∀ X, (binOp .neq 24 (.agg #[.int .i64 x.a, .int .i64 x.b, .int .i64 x.c, .int .i64 x.d]) (.agg #[.int .i64 x.a, .int .i64 x.b, .int .i64 x.c, .int .i64 x.d])).run Try.prog X = .ok (.bool false) X := fun X => by have := neqQ X x x; rw [decide_eq_true rfl] at this; exact this
      clear hc7 r7
      go_quiet (fail)
      go_wp2_with fail
      go_roundw
      case rel => exact ⟨i + 1, by go_num, by omega, below_drewN (HBR.out.trans ((HB6.out.trans (HB7.out.mono HB6.out.size)).mono HBR.out.size)) _⟩
      case measure => simp [intOf]; omega
    · obtain rfl : i = R.length := by omega
      clear hin hi
      have hw0 := HB3.out.size
      have rp := (HBR.out.block _ (Array.getElem?_eq_some_iff.1 HP3.out).1).trans HP3.out
      have rq := (HBR.out.block _ (Array.getElem?_eq_some_iff.1 HQ3.out).1).trans HQ3.out
      have HSR := Lib.hid (HS3.out.keep HBR.out)
      have hfp := find_at wr gv bs ta tc vp (HT.out.below HBR.out) R HBLT.out p
      obtain ⟨M, hM⟩ : ∃ M, M = fndN R p := ⟨_, rfl⟩
      obtain ⟨N, hN⟩ : ∃ N, N = fndN R q := ⟨_, rfl⟩
      obtain ⟨I, hI⟩ : ∃ I, I = isN R p := ⟨_, rfl⟩
      obtain ⟨J, hJ⟩ : ∃ J, J = isN R q := ⟨_, rfl⟩
      rw [← hM, ← hI] at hfp
      have hfp2 : Calls Try.prog 24 #[.pointer (some ⟨gv, 0, none⟩), .agg #[.int .i64 p.a, .int .i64 p.b, .int .i64 p.c, .int .i64 p.d]] wr fun e w' => e = .returned (.tuple #[.int .i64 (M : Nat), .bool I]) ∧ Below wr.heap.size wr w' := hfp
      have HFP := Lib.hid hfp2
      have HFQ := Lib.hid (fun W (hb : Below wr.heap.size wr W) => (show Calls Try.prog 24 #[.pointer (some ⟨gv, 0, none⟩), .agg #[.int .i64 q.a, .int .i64 q.b, .int .i64 q.c, .int .i64 q.d]] W fun e w' => e = .returned (.tuple #[.int .i64 (N : Nat), .bool J]) ∧ Below W.heap.size W w' by
        have := find_at W gv bs ta tc vp ((HT.out.below HBR.out).below hb) R HBLT.out q
        rw [← hN, ← hJ] at this
        exact this))
      have HM := Lib.hid hM
      have HN := Lib.hid hN
      have HI := Lib.hid hI
      have HJ := Lib.hid hJ
      have p0 : wr.cell? ⟨w.heap.size, 0, none⟩ = some (.int .i64 p.a) := cell_of_row wr _ 0 _ _ _ rp
      have p1 : wr.cell? ⟨w.heap.size, 1, none⟩ = some (.int .i64 p.b) := cell_of_row wr _ 1 _ _ _ rp
      have p2 : wr.cell? ⟨w.heap.size, 2, none⟩ = some (.int .i64 p.c) := cell_of_row wr _ 2 _ _ _ rp
      have p3 : wr.cell? ⟨w.heap.size, 3, none⟩ = some (.int .i64 p.d) := cell_of_row wr _ 3 _ _ _ rp
      have HRP2 := Lib.hid rp
      have HRQ2 := Lib.hid rq
      clear hM hN hI hJ hfp hfp2 rp rq
      go_upto_region 17 with (go_at_call 24; (with_reducible refine HFP.out.mono ?_); rintro e w8 ⟨rfl, hb⟩; (have HB8 := Lib.hid hb); clear hb)
      clear p0 p1 p2 p3
      have rq := (HB8.out.block _ (Array.getElem?_eq_some_iff.1 HRQ2.out).1).trans HRQ2.out
      have p0 : w8.cell? ⟨w.heap.size + 1, 0, none⟩ = some (.int .i64 q.a) := cell_of_row w8 _ 0 _ _ _ rq
      have p1 : w8.cell? ⟨w.heap.size + 1, 1, none⟩ = some (.int .i64 q.b) := cell_of_row w8 _ 1 _ _ _ rq
      have p2 : w8.cell? ⟨w.heap.size + 1, 2, none⟩ = some (.int .i64 q.c) := cell_of_row w8 _ 2 _ _ _ rq
      have p3 : w8.cell? ⟨w.heap.size + 1, 3, none⟩ = some (.int .i64 q.d) := cell_of_row w8 _ 3 _ _ _ rq
      clear rq
      go_upto_region 18 with (go_at_call 24; (with_reducible refine (HFQ.out w8 HB8.out).mono ?_); rintro e w9 ⟨rfl, hb⟩; (have HB9 := Lib.hid (HB8.out.trans (hb.mono HB8.out.size))); clear hb)
      clear p0 p1 p2 p3 HFP HFQ HB8
      have hm := fndN_le R p
      rw [← HM.out] at hm
      have HMle := Lib.hid hm
      have hpp : w9.rangeAt w.heap.size 0 (qcs p) := fun j v hv => by
        have hj : j < 4 := by have := (List.getElem?_eq_some_iff.1 hv).1; simpa [qcs] using this
        rw [Nat.zero_add, cell_of_row _ _ _ _ _ _ ((HB9.out.block _ (Array.getElem?_eq_some_iff.1 HRP2.out).1).trans HRP2.out)]
        rcases (by omega : j = 0 ∨ j = 1 ∨ j = 2 ∨ j = 3) with rfl | rfl | rfl | rfl <;> exact hv
      have HPP := Lib.hid hpp
      have SZ := Lib.hid Try.sizeIds
      have hmx := HSR.out.max
      have hlx := HSR.out.le
      have hmle := HMle.out
      clear hpp
      by_cases hpos : 0 < M
      · by_cases hin : M < R.length
        · obtain ⟨ba, oa, hab, _⟩ := HSR.out.cell 0 (by omega)
          subst hab
          obtain ⟨m1, hm1⟩ : ∃ m1, M = m1 + 1 := ⟨M - 1, by omega⟩
          have hm3 : m1 < R.length := by omega
          obtain ⟨y, hy⟩ : ∃ y, y = R.getD m1 default := ⟨_, rfl⟩
          obtain ⟨b2, o2, he, hcy⟩ := HSR.out.cell m1 hm3
          cases he
          rw [← hy] at hcy
          have HY := Lib.hid (range_keep hcy HB9.out)
          obtain ⟨cy, hcy2⟩ : ∃ cy, cy = cmpQ y p := ⟨_, rfl⟩
          have HCY := Lib.hid hcy2
          have hneg : cy < 0 := by have := inv_ahead (M := R) (p := p) (by rw [← HM.out]; omega); rw [← HM.out, hm1, Nat.add_sub_cancel, ← hy, ← hcy2] at this; exact this
          clear hy hcy hcy2
          obtain ⟨z, hz⟩ : ∃ z, z = R.getD M default := ⟨_, rfl⟩
          obtain ⟨b3, o3, he3, hcz⟩ := HSR.out.cell M hin
          cases he3
          rw [← hz] at hcz
          have HZ := Lib.hid (range_keep hcz HB9.out)
          obtain ⟨cz, hcz2⟩ : ∃ cz, cz = cmpQ z p := ⟨_, rfl⟩
          have HCZ := Lib.hid hcz2
          have hnn : 0 ≤ cz := by have := fndN_ge (L := R) (q := p) (by rw [← HM.out]; exact hin); rw [← HM.out, ← hz, ← hcz2] at this; exact this
          have HIZ := Lib.hid (show I = decide (z = p) by rw [HI.out]; unfold isN; rw [← HM.out, decide_eq_true hin, ← hz]; simp)
          clear hz hcz hcz2
          refine wp_region_quiet_all (fun w' => Below w9.heap.size w9 w') (by kernel_rfl) (by kernel_rfl) (below_drewN (Below.refl _ _) 1) ?_
          refine WQ.h ?_
          refine wq_valD 93 (.int .i64 (M : Nat)) rfl rfl (fun w' h => by simp [go_sem]) ?_
          simp only [List.setIfInBounds_toArray, List.set_cons_succ, List.set_cons_zero]
          refine wq_valD 94 (.bool true) rfl rfl (fun w' h => by simp [go_sem]; omega) ?_
          simp only [List.setIfInBounds_toArray, List.set_cons_succ, List.set_cons_zero]
          refine wq_valD 95 (.bool true) rfl rfl (fun w' h => by simp [go_sem]) ?_
          simp only [List.setIfInBounds_toArray, List.set_cons_succ, List.set_cons_zero]
          refine wq_valD 96 (.slice (some ⟨ba, oa, none⟩) R.length rc) rfl rfl (fun w' h => by simp [go_sem]) ?_
          simp only [List.setIfInBounds_toArray, List.set_cons_succ, List.set_cons_zero]
          refine wq_valD 97 (.int .i64 (M : Nat)) rfl rfl (fun w' h => by simp [go_sem]) ?_
          simp only [List.setIfInBounds_toArray, List.set_cons_succ, List.set_cons_zero]
          refine wq_valD 98 (.int .i64 (m1 : Nat)) rfl rfl (fun w' h => by simp [go_sem, hm1]; rw [IntKind.wrap_i64]; omega) ?_
          simp only [List.setIfInBounds_toArray, List.set_cons_succ, List.set_cons_zero]
          refine wq_valD 99 (.pointer (some ⟨ba, oa + m1 * 4, none⟩)) rfl rfl (fun w' h => by simp [go_sem, hm3]) ?_
          simp only [List.setIfInBounds_toArray, List.set_cons_succ, List.set_cons_zero]
          refine wq_midD 100 rfl rfl 24 (.tmp 99) rfl ba (oa + m1 * 4) (by simp [go_sem]) (qcs y) _ (fun w' h => range_keep HY.out h) Try.underlying24 rfl SZ.out ?_
          simp only [List.setIfInBounds_toArray, List.set_cons_succ, List.set_cons_zero]
          refine wq_midD 101 rfl rfl 24 (.tmp 4) rfl w.heap.size (0) (by simp [go_sem]) (qcs p) _ (fun w' h => range_keep HPP.out h) Try.underlying24 rfl SZ.out ?_
          simp only [List.setIfInBounds_toArray, List.set_cons_succ, List.set_cons_zero]
          refine wq_callD 102 (.int .i64 cy) 25 #[qv y, qv p] rfl rfl (fun w' => by simp [go_sem, qv, qcs]) (fun w' h => by rw [HCY.out]; exact (rcompare_calls w' y p).mono fun e w2 ⟨h1, h2⟩ => ⟨h1, h.trans (h2.mono h.size)⟩) ?_
          simp only [List.setIfInBounds_toArray, List.set_cons_succ, List.set_cons_zero]
          refine wq_valD 103 (.bool false) rfl rfl (fun w' h => by simp [go_sem]; omega) ?_
          simp only [List.setIfInBounds_toArray, List.set_cons_succ, List.set_cons_zero]
          refine wq_valD 104 (.bool false) rfl rfl (fun w' h => by simp [go_sem]) ?_
          simp only [List.setIfInBounds_toArray, List.set_cons_succ, List.set_cons_zero]
          refine wq_valD 105 (.bool false) rfl rfl (fun w' h => by simp [go_sem]) ?_
          simp only [List.setIfInBounds_toArray, List.set_cons_succ, List.set_cons_zero]
          refine wq_valD 106 (.int .i64 (M : Nat)) rfl rfl (fun w' h => by simp [go_sem]) ?_
          simp only [List.setIfInBounds_toArray, List.set_cons_succ, List.set_cons_zero]
          refine wq_valD 107 (.slice (some ⟨ba, oa, none⟩) R.length rc) rfl rfl (fun w' h => by simp [go_sem]) ?_
          simp only [List.setIfInBounds_toArray, List.set_cons_succ, List.set_cons_zero]
          refine wq_valD 108 (.int .i64 (R.length : Nat)) rfl rfl (fun w' h => by simp [go_sem]) ?_
          simp only [List.setIfInBounds_toArray, List.set_cons_succ, List.set_cons_zero]
          refine wq_valD 109 (.bool true) rfl rfl (fun w' h => by simp [go_sem]; omega) ?_
          simp only [List.setIfInBounds_toArray, List.set_cons_succ, List.set_cons_zero]
          refine wq_valD 110 (.bool true) rfl rfl (fun w' h => by simp [go_sem]) ?_
          simp only [List.setIfInBounds_toArray, List.set_cons_succ, List.set_cons_zero]
          refine wq_valD 111 (.slice (some ⟨ba, oa, none⟩) R.length rc) rfl rfl (fun w' h => by simp [go_sem]) ?_
          simp only [List.setIfInBounds_toArray, List.set_cons_succ, List.set_cons_zero]
          refine wq_valD 112 (.int .i64 (M : Nat)) rfl rfl (fun w' h => by simp [go_sem]) ?_
          simp only [List.setIfInBounds_toArray, List.set_cons_succ, List.set_cons_zero]
          refine wq_valD 113 (.pointer (some ⟨ba, oa + M * 4, none⟩)) rfl rfl (fun w' h => by simp [go_sem, hin]) ?_
          simp only [List.setIfInBounds_toArray, List.set_cons_succ, List.set_cons_zero]
          refine wq_midD 114 rfl rfl 24 (.tmp 113) rfl ba (oa + M * 4) (by simp [go_sem]) (qcs z) _ (fun w' h => range_keep HZ.out h) Try.underlying24 rfl SZ.out ?_
          simp only [List.setIfInBounds_toArray, List.set_cons_succ, List.set_cons_zero]
          refine wq_midD 115 rfl rfl 24 (.tmp 4) rfl w.heap.size (0) (by simp [go_sem]) (qcs p) _ (fun w' h => range_keep HPP.out h) Try.underlying24 rfl SZ.out ?_
          simp only [List.setIfInBounds_toArray, List.set_cons_succ, List.set_cons_zero]
          refine wq_callD 116 (.int .i64 cz) 25 #[qv z, qv p] rfl rfl (fun w' => by simp [go_sem, qv, qcs]) (fun w' h => by rw [HCZ.out]; exact (rcompare_calls w' z p).mono fun e w2 ⟨h1, h2⟩ => ⟨h1, h.trans (h2.mono h.size)⟩) ?_
          simp only [List.setIfInBounds_toArray, List.set_cons_succ, List.set_cons_zero]
          refine wq_valD 117 (.bool false) rfl rfl (fun w' h => by simp [go_sem]; omega) ?_
          simp only [List.setIfInBounds_toArray, List.set_cons_succ, List.set_cons_zero]
          refine wq_valD 118 (.bool false) rfl rfl (fun w' h => by simp [go_sem]) ?_
          simp only [List.setIfInBounds_toArray, List.set_cons_succ, List.set_cons_zero]
          refine wq_valD 119 (.bool false) rfl rfl (fun w' h => by simp [go_sem]) ?_
          simp only [List.setIfInBounds_toArray, List.set_cons_succ, List.set_cons_zero]
          refine wq_valD 120 (.bool false) rfl rfl (fun w' h => by simp [go_sem]) ?_
          simp only [List.setIfInBounds_toArray, List.set_cons_succ, List.set_cons_zero]
          refine wq_valD 121 (.bool I) rfl rfl (fun w' h => by simp [go_sem]) ?_
          simp only [List.setIfInBounds_toArray, List.set_cons_succ, List.set_cons_zero]
          refine wq_valD 122 (.int .i64 (M : Nat)) rfl rfl (fun w' h => by simp [go_sem]) ?_
          simp only [List.setIfInBounds_toArray, List.set_cons_succ, List.set_cons_zero]
          refine wq_valD 123 (.slice (some ⟨ba, oa, none⟩) R.length rc) rfl rfl (fun w' h => by simp [go_sem]) ?_
          simp only [List.setIfInBounds_toArray, List.set_cons_succ, List.set_cons_zero]
          refine wq_valD 124 (.int .i64 (R.length : Nat)) rfl rfl (fun w' h => by simp [go_sem]) ?_
          simp only [List.setIfInBounds_toArray, List.set_cons_succ, List.set_cons_zero]
          refine wq_valD 125 (.bool true) rfl rfl (fun w' h => by simp [go_sem]; omega) ?_
          simp only [List.setIfInBounds_toArray, List.set_cons_succ, List.set_cons_zero]
          refine wq_valD 126 (.bool true) rfl rfl (fun w' h => by simp [go_sem]) ?_
          simp only [List.setIfInBounds_toArray, List.set_cons_succ, List.set_cons_zero]
          refine wq_valD 127 (.slice (some ⟨ba, oa, none⟩) R.length rc) rfl rfl (fun w' h => by simp [go_sem]) ?_
          simp only [List.setIfInBounds_toArray, List.set_cons_succ, List.set_cons_zero]
          refine wq_valD 128 (.int .i64 (M : Nat)) rfl rfl (fun w' h => by simp [go_sem]) ?_
          simp only [List.setIfInBounds_toArray, List.set_cons_succ, List.set_cons_zero]
          refine wq_valD 129 (.pointer (some ⟨ba, oa + M * 4, none⟩)) rfl rfl (fun w' h => by simp [go_sem, hin]) ?_
          simp only [List.setIfInBounds_toArray, List.set_cons_succ, List.set_cons_zero]
          refine wq_midD 130 rfl rfl 24 (.tmp 129) rfl ba (oa + M * 4) (by simp [go_sem]) (qcs z) _ (fun w' h => range_keep HZ.out h) Try.underlying24 rfl SZ.out ?_
          simp only [List.setIfInBounds_toArray, List.set_cons_succ, List.set_cons_zero]
          refine wq_midD 131 rfl rfl 24 (.tmp 4) rfl w.heap.size (0) (by simp [go_sem]) (qcs p) _ (fun w' h => range_keep HPP.out h) Try.underlying24 rfl SZ.out ?_
          simp only [List.setIfInBounds_toArray, List.set_cons_succ, List.set_cons_zero]
          refine wq_valD 132 (.bool I) rfl rfl (fun w' h => by have := eqQ w' z p 9998; rw [← HIZ.out] at this; simp [go_sem, this]) ?_
          simp only [List.setIfInBounds_toArray, List.set_cons_succ, List.set_cons_zero]
          refine wq_valD 133 (.bool I) rfl rfl (fun w' h => by simp [go_sem]) ?_
          simp only [List.setIfInBounds_toArray, List.set_cons_succ, List.set_cons_zero]
          refine wq_valD 134 (.bool false) rfl rfl (fun w' h => by simp [go_sem]) ?_
          simp only [List.setIfInBounds_toArray, List.set_cons_succ, List.set_cons_zero]
          refine wq_valD 135 (.bool false) rfl rfl (fun w' h => by simp [go_sem]) ?_
          simp only [List.setIfInBounds_toArray, List.set_cons_succ, List.set_cons_zero]
          refine wq_nilD ?_
          intro w10 hb10
          have HB10 := Lib.hid hb10
          clear hb10
          have rp := (HB10.out.block _ (Array.getElem?_eq_some_iff.1 ((HB9.out.block _ (Array.getElem?_eq_some_iff.1 HRP2.out).1).trans HRP2.out)).1).trans ((HB9.out.block _ (Array.getElem?_eq_some_iff.1 HRP2.out).1).trans HRP2.out)
          have rq := (HB10.out.block _ (Array.getElem?_eq_some_iff.1 ((HB9.out.block _ (Array.getElem?_eq_some_iff.1 HRQ2.out).1).trans HRQ2.out)).1).trans ((HB9.out.block _ (Array.getElem?_eq_some_iff.1 HRQ2.out).1).trans HRQ2.out)
          have p0 : w10.cell? ⟨w.heap.size, 0, none⟩ = some (.int .i64 p.a) := cell_of_row w10 _ 0 _ _ _ rp
          have q0 : w10.cell? ⟨w.heap.size + 1, 0, none⟩ = some (.int .i64 q.a) := cell_of_row w10 _ 0 _ _ _ rq
          have p1 : w10.cell? ⟨w.heap.size, 1, none⟩ = some (.int .i64 p.b) := cell_of_row w10 _ 1 _ _ _ rp
          have q1 : w10.cell? ⟨w.heap.size + 1, 1, none⟩ = some (.int .i64 q.b) := cell_of_row w10 _ 1 _ _ _ rq
          have p2 : w10.cell? ⟨w.heap.size, 2, none⟩ = some (.int .i64 p.c) := cell_of_row w10 _ 2 _ _ _ rp
          have q2 : w10.cell? ⟨w.heap.size + 1, 2, none⟩ = some (.int .i64 q.c) := cell_of_row w10 _ 2 _ _ _ rq
          have p3 : w10.cell? ⟨w.heap.size, 3, none⟩ = some (.int .i64 p.d) := cell_of_row w10 _ 3 _ _ _ rp
          have q3 : w10.cell? ⟨w.heap.size + 1, 3, none⟩ = some (.int .i64 q.d) := cell_of_row w10 _ 3 _ _ _ rq
          obtain ⟨C, hC⟩ : ∃ C, C = cmpQ p q := ⟨_, rfl⟩
          have hcmp := rcompare_calls w10 p q
          rw [← hC] at hcmp
          have hcmp2 : Calls Try.prog 25 #[.agg #[.int .i64 p.a, .int .i64 p.b, .int .i64 p.c, .int .i64 p.d], .agg #[.int .i64 q.a, .int .i64 q.b, .int .i64 q.c, .int .i64 q.d]] w10 fun e w' => e = .returned (.int .i64 C) ∧ Below w10.heap.size w10 w' := hcmp
          have HCM := Lib.hid hcmp2
          have HC0 := Lib.hid hC
          clear hcmp hcmp2 rp rq hC
          go_upto_region 21 with (go_at_call 25; (with_reducible refine HCM.out.mono ?_); rintro e w11 ⟨rfl, hb⟩; (have HB11 := Lib.hid hb); clear hb)
          rcases Int.lt_trichotomy C 0 with hc | hc | hc
          · have hmn : M ≤ N := by rw [HM.out, HN.out]; exact fndN_mono (by rw [← HC0.out]; omega)
            have e1 : decide ((0 : Int) < C) = false := decide_eq_false (by omega)
            have e2 : decide (C < (0 : Int)) = true := decide_eq_true hc
            have e3 : decide ((M : Int) ≤ (N : Int)) = true := decide_eq_true (by omega)
            have e4 : ¬ C = 0 := by omega
            go_wp2_with fail
            go_ret
            exact ⟨rfl, HB3.out.trans ((HBR.out.trans ((HB9.out.trans ((HB10.out.trans (HB11.out.mono HB10.out.size)).mono HB9.out.size)).mono HBR.out.size)).mono HB3.out.size)⟩
          · have hmn : M = N := by rw [HM.out, HN.out, cmp_zero (p := p) (q := q) (by rw [← HC0.out]; exact hc)]
            have hij : I = J := by rw [HI.out, HJ.out, cmp_zero (p := p) (q := q) (by rw [← HC0.out]; exact hc)]
            subst hc
            rw [← hmn, ← hij]
            go_wp2_with fail
            go_ret
            exact ⟨rfl, HB3.out.trans ((HBR.out.trans ((HB9.out.trans ((HB10.out.trans (HB11.out.mono HB10.out.size)).mono HB9.out.size)).mono HBR.out.size)).mono HB3.out.size)⟩
          · have hmn : N ≤ M := by rw [HM.out, HN.out]; rcases inv_ge (M := R) (p := p) (q := q) with g | g; (rw [← HC0.out] at g; omega); exact g
            have e1 : decide ((0 : Int) < C) = true := decide_eq_true hc
            have e2 : decide (C < (0 : Int)) = false := decide_eq_false (by omega)
            have e3 : decide ((N : Int) ≤ (M : Int)) = true := decide_eq_true (by omega)
            have e4 : ¬ C = 0 := by omega
            go_wp2_with fail
            go_ret
            exact ⟨rfl, HB3.out.trans ((HBR.out.trans ((HB9.out.trans ((HB10.out.trans (HB11.out.mono HB10.out.size)).mono HB9.out.size)).mono HBR.out.size)).mono HB3.out.size)⟩
        · obtain ⟨ba, oa, hab, _⟩ := HSR.out.cell 0 (by omega)
          subst hab
          obtain ⟨m1, hm1⟩ : ∃ m1, M = m1 + 1 := ⟨M - 1, by omega⟩
          have hm3 : m1 < R.length := by omega
          obtain ⟨y, hy⟩ : ∃ y, y = R.getD m1 default := ⟨_, rfl⟩
          obtain ⟨b2, o2, he, hcy⟩ := HSR.out.cell m1 hm3
          cases he
          rw [← hy] at hcy
          have HY := Lib.hid (range_keep hcy HB9.out)
          obtain ⟨cy, hcy2⟩ : ∃ cy, cy = cmpQ y p := ⟨_, rfl⟩
          have HCY := Lib.hid hcy2
          have hneg : cy < 0 := by have := inv_ahead (M := R) (p := p) (by rw [← HM.out]; omega); rw [← HM.out, hm1, Nat.add_sub_cancel, ← hy, ← hcy2] at this; exact this
          clear hy hcy hcy2
          have HIZ := Lib.hid (show I = false by rw [HI.out]; unfold isN; rw [← HM.out, decide_eq_false hin]; rfl)
          refine wp_region_quiet_all (fun w' => Below w9.heap.size w9 w') (by kernel_rfl) (by kernel_rfl) (below_drewN (Below.refl _ _) 1) ?_
          refine WQ.h ?_
          refine wq_valD 93 (.int .i64 (M : Nat)) rfl rfl (fun w' h => by simp [go_sem]) ?_
          simp only [List.setIfInBounds_toArray, List.set_cons_succ, List.set_cons_zero]
          refine wq_valD 94 (.bool true) rfl rfl (fun w' h => by simp [go_sem]; omega) ?_
          simp only [List.setIfInBounds_toArray, List.set_cons_succ, List.set_cons_zero]
          refine wq_valD 95 (.bool true) rfl rfl (fun w' h => by simp [go_sem]) ?_
          simp only [List.setIfInBounds_toArray, List.set_cons_succ, List.set_cons_zero]
          refine wq_valD 96 (.slice (some ⟨ba, oa, none⟩) R.length rc) rfl rfl (fun w' h => by simp [go_sem]) ?_
          simp only [List.setIfInBounds_toArray, List.set_cons_succ, List.set_cons_zero]
          refine wq_valD 97 (.int .i64 (M : Nat)) rfl rfl (fun w' h => by simp [go_sem]) ?_
          simp only [List.setIfInBounds_toArray, List.set_cons_succ, List.set_cons_zero]
          refine wq_valD 98 (.int .i64 (m1 : Nat)) rfl rfl (fun w' h => by simp [go_sem, hm1]; rw [IntKind.wrap_i64]; omega) ?_
          simp only [List.setIfInBounds_toArray, List.set_cons_succ, List.set_cons_zero]
          refine wq_valD 99 (.pointer (some ⟨ba, oa + m1 * 4, none⟩)) rfl rfl (fun w' h => by simp [go_sem, hm3]) ?_
          simp only [List.setIfInBounds_toArray, List.set_cons_succ, List.set_cons_zero]
          refine wq_midD 100 rfl rfl 24 (.tmp 99) rfl ba (oa + m1 * 4) (by simp [go_sem]) (qcs y) _ (fun w' h => range_keep HY.out h) Try.underlying24 rfl SZ.out ?_
          simp only [List.setIfInBounds_toArray, List.set_cons_succ, List.set_cons_zero]
          refine wq_midD 101 rfl rfl 24 (.tmp 4) rfl w.heap.size (0) (by simp [go_sem]) (qcs p) _ (fun w' h => range_keep HPP.out h) Try.underlying24 rfl SZ.out ?_
          simp only [List.setIfInBounds_toArray, List.set_cons_succ, List.set_cons_zero]
          refine wq_callD 102 (.int .i64 cy) 25 #[qv y, qv p] rfl rfl (fun w' => by simp [go_sem, qv, qcs]) (fun w' h => by rw [HCY.out]; exact (rcompare_calls w' y p).mono fun e w2 ⟨h1, h2⟩ => ⟨h1, h.trans (h2.mono h.size)⟩) ?_
          simp only [List.setIfInBounds_toArray, List.set_cons_succ, List.set_cons_zero]
          refine wq_valD 103 (.bool false) rfl rfl (fun w' h => by simp [go_sem]; omega) ?_
          simp only [List.setIfInBounds_toArray, List.set_cons_succ, List.set_cons_zero]
          refine wq_valD 104 (.bool false) rfl rfl (fun w' h => by simp [go_sem]) ?_
          simp only [List.setIfInBounds_toArray, List.set_cons_succ, List.set_cons_zero]
          refine wq_valD 105 (.bool false) rfl rfl (fun w' h => by simp [go_sem]) ?_
          simp only [List.setIfInBounds_toArray, List.set_cons_succ, List.set_cons_zero]
          refine wq_valD 106 (.int .i64 (M : Nat)) rfl rfl (fun w' h => by simp [go_sem]) ?_
          simp only [List.setIfInBounds_toArray, List.set_cons_succ, List.set_cons_zero]
          refine wq_valD 107 (.slice (some ⟨ba, oa, none⟩) R.length rc) rfl rfl (fun w' h => by simp [go_sem]) ?_
          simp only [List.setIfInBounds_toArray, List.set_cons_succ, List.set_cons_zero]
          refine wq_valD 108 (.int .i64 (R.length : Nat)) rfl rfl (fun w' h => by simp [go_sem]) ?_
          simp only [List.setIfInBounds_toArray, List.set_cons_succ, List.set_cons_zero]
          refine wq_valD 109 (.bool false) rfl rfl (fun w' h => by simp [go_sem]; omega) ?_
          simp only [List.setIfInBounds_toArray, List.set_cons_succ, List.set_cons_zero]
          refine wq_valD 110 (.bool false) rfl rfl (fun w' h => by simp [go_sem]) ?_
          simp only [List.setIfInBounds_toArray, List.set_cons_succ, List.set_cons_zero]
          refine wq_skipD 111 rfl rfl ?_
          simp only [List.setIfInBounds_toArray, List.set_cons_succ, List.set_cons_zero]
          refine wq_skipD 112 rfl rfl ?_
          simp only [List.setIfInBounds_toArray, List.set_cons_succ, List.set_cons_zero]
          refine wq_skipD 113 rfl rfl ?_
          simp only [List.setIfInBounds_toArray, List.set_cons_succ, List.set_cons_zero]
          refine wq_skipD 114 rfl rfl ?_
          simp only [List.setIfInBounds_toArray, List.set_cons_succ, List.set_cons_zero]
          refine wq_skipD 115 rfl rfl ?_
          simp only [List.setIfInBounds_toArray, List.set_cons_succ, List.set_cons_zero]
          refine wq_skipD 116 rfl rfl ?_
          simp only [List.setIfInBounds_toArray, List.set_cons_succ, List.set_cons_zero]
          refine wq_skipD 117 rfl rfl ?_
          simp only [List.setIfInBounds_toArray, List.set_cons_succ, List.set_cons_zero]
          refine wq_valD 118 (.bool false) rfl rfl (fun w' h => by simp [go_sem]) ?_
          simp only [List.setIfInBounds_toArray, List.set_cons_succ, List.set_cons_zero]
          refine wq_valD 119 (.bool false) rfl rfl (fun w' h => by simp [go_sem]) ?_
          simp only [List.setIfInBounds_toArray, List.set_cons_succ, List.set_cons_zero]
          refine wq_valD 120 (.bool false) rfl rfl (fun w' h => by simp [go_sem]) ?_
          simp only [List.setIfInBounds_toArray, List.set_cons_succ, List.set_cons_zero]
          refine wq_valD 121 (.bool I) rfl rfl (fun w' h => by simp [go_sem]) ?_
          simp only [List.setIfInBounds_toArray, List.set_cons_succ, List.set_cons_zero]
          refine wq_valD 122 (.int .i64 (M : Nat)) rfl rfl (fun w' h => by simp [go_sem]) ?_
          simp only [List.setIfInBounds_toArray, List.set_cons_succ, List.set_cons_zero]
          refine wq_valD 123 (.slice (some ⟨ba, oa, none⟩) R.length rc) rfl rfl (fun w' h => by simp [go_sem]) ?_
          simp only [List.setIfInBounds_toArray, List.set_cons_succ, List.set_cons_zero]
          refine wq_valD 124 (.int .i64 (R.length : Nat)) rfl rfl (fun w' h => by simp [go_sem]) ?_
          simp only [List.setIfInBounds_toArray, List.set_cons_succ, List.set_cons_zero]
          refine wq_valD 125 (.bool false) rfl rfl (fun w' h => by simp [go_sem]; omega) ?_
          simp only [List.setIfInBounds_toArray, List.set_cons_succ, List.set_cons_zero]
          refine wq_valD 126 (.bool false) rfl rfl (fun w' h => by simp [go_sem]) ?_
          simp only [List.setIfInBounds_toArray, List.set_cons_succ, List.set_cons_zero]
          refine wq_skipD 127 rfl rfl ?_
          simp only [List.setIfInBounds_toArray, List.set_cons_succ, List.set_cons_zero]
          refine wq_skipD 128 rfl rfl ?_
          simp only [List.setIfInBounds_toArray, List.set_cons_succ, List.set_cons_zero]
          refine wq_skipD 129 rfl rfl ?_
          simp only [List.setIfInBounds_toArray, List.set_cons_succ, List.set_cons_zero]
          refine wq_skipD 130 rfl rfl ?_
          simp only [List.setIfInBounds_toArray, List.set_cons_succ, List.set_cons_zero]
          refine wq_skipD 131 rfl rfl ?_
          simp only [List.setIfInBounds_toArray, List.set_cons_succ, List.set_cons_zero]
          refine wq_skipD 132 rfl rfl ?_
          simp only [List.setIfInBounds_toArray, List.set_cons_succ, List.set_cons_zero]
          refine wq_valD 133 (.bool false) rfl rfl (fun w' h => by simp [go_sem]) ?_
          simp only [List.setIfInBounds_toArray, List.set_cons_succ, List.set_cons_zero]
          refine wq_valD 134 (.bool false) rfl rfl (fun w' h => by simp [go_sem, HIZ.out]) ?_
          simp only [List.setIfInBounds_toArray, List.set_cons_succ, List.set_cons_zero]
          refine wq_valD 135 (.bool false) rfl rfl (fun w' h => by simp [go_sem]) ?_
          simp only [List.setIfInBounds_toArray, List.set_cons_succ, List.set_cons_zero]
          refine wq_nilD ?_
          intro w10 hb10
          have HB10 := Lib.hid hb10
          clear hb10
          have rp := (HB10.out.block _ (Array.getElem?_eq_some_iff.1 ((HB9.out.block _ (Array.getElem?_eq_some_iff.1 HRP2.out).1).trans HRP2.out)).1).trans ((HB9.out.block _ (Array.getElem?_eq_some_iff.1 HRP2.out).1).trans HRP2.out)
          have rq := (HB10.out.block _ (Array.getElem?_eq_some_iff.1 ((HB9.out.block _ (Array.getElem?_eq_some_iff.1 HRQ2.out).1).trans HRQ2.out)).1).trans ((HB9.out.block _ (Array.getElem?_eq_some_iff.1 HRQ2.out).1).trans HRQ2.out)
          have p0 : w10.cell? ⟨w.heap.size, 0, none⟩ = some (.int .i64 p.a) := cell_of_row w10 _ 0 _ _ _ rp
          have q0 : w10.cell? ⟨w.heap.size + 1, 0, none⟩ = some (.int .i64 q.a) := cell_of_row w10 _ 0 _ _ _ rq
          have p1 : w10.cell? ⟨w.heap.size, 1, none⟩ = some (.int .i64 p.b) := cell_of_row w10 _ 1 _ _ _ rp
          have q1 : w10.cell? ⟨w.heap.size + 1, 1, none⟩ = some (.int .i64 q.b) := cell_of_row w10 _ 1 _ _ _ rq
          have p2 : w10.cell? ⟨w.heap.size, 2, none⟩ = some (.int .i64 p.c) := cell_of_row w10 _ 2 _ _ _ rp
          have q2 : w10.cell? ⟨w.heap.size + 1, 2, none⟩ = some (.int .i64 q.c) := cell_of_row w10 _ 2 _ _ _ rq
          have p3 : w10.cell? ⟨w.heap.size, 3, none⟩ = some (.int .i64 p.d) := cell_of_row w10 _ 3 _ _ _ rp
          have q3 : w10.cell? ⟨w.heap.size + 1, 3, none⟩ = some (.int .i64 q.d) := cell_of_row w10 _ 3 _ _ _ rq
          obtain ⟨C, hC⟩ : ∃ C, C = cmpQ p q := ⟨_, rfl⟩
          have hcmp := rcompare_calls w10 p q
          rw [← hC] at hcmp
          have hcmp2 : Calls Try.prog 25 #[.agg #[.int .i64 p.a, .int .i64 p.b, .int .i64 p.c, .int .i64 p.d], .agg #[.int .i64 q.a, .int .i64 q.b, .int .i64 q.c, .int .i64 q.d]] w10 fun e w' => e = .returned (.int .i64 C) ∧ Below w10.heap.size w10 w' := hcmp
          have HCM := Lib.hid hcmp2
          have HC0 := Lib.hid hC
          clear hcmp hcmp2 rp rq hC
          go_upto_region 21 with (go_at_call 25; (with_reducible refine HCM.out.mono ?_); rintro e w11 ⟨rfl, hb⟩; (have HB11 := Lib.hid hb); clear hb)
          rcases Int.lt_trichotomy C 0 with hc | hc | hc
          · have hmn : M ≤ N := by rw [HM.out, HN.out]; exact fndN_mono (by rw [← HC0.out]; omega)
            have e1 : decide ((0 : Int) < C) = false := decide_eq_false (by omega)
            have e2 : decide (C < (0 : Int)) = true := decide_eq_true hc
            have e3 : decide ((M : Int) ≤ (N : Int)) = true := decide_eq_true (by omega)
            have e4 : ¬ C = 0 := by omega
            go_wp2_with fail
            go_ret
            exact ⟨rfl, HB3.out.trans ((HBR.out.trans ((HB9.out.trans ((HB10.out.trans (HB11.out.mono HB10.out.size)).mono HB9.out.size)).mono HBR.out.size)).mono HB3.out.size)⟩
          · have hmn : M = N := by rw [HM.out, HN.out, cmp_zero (p := p) (q := q) (by rw [← HC0.out]; exact hc)]
            have hij : I = J := by rw [HI.out, HJ.out, cmp_zero (p := p) (q := q) (by rw [← HC0.out]; exact hc)]
            subst hc
            rw [← hmn, ← hij]
            go_wp2_with fail
            go_ret
            exact ⟨rfl, HB3.out.trans ((HBR.out.trans ((HB9.out.trans ((HB10.out.trans (HB11.out.mono HB10.out.size)).mono HB9.out.size)).mono HBR.out.size)).mono HB3.out.size)⟩
          · have hmn : N ≤ M := by rw [HM.out, HN.out]; rcases inv_ge (M := R) (p := p) (q := q) with g | g; (rw [← HC0.out] at g; omega); exact g
            have e1 : decide ((0 : Int) < C) = true := decide_eq_true hc
            have e2 : decide (C < (0 : Int)) = false := decide_eq_false (by omega)
            have e3 : decide ((N : Int) ≤ (M : Int)) = true := decide_eq_true (by omega)
            have e4 : ¬ C = 0 := by omega
            go_wp2_with fail
            go_ret
            exact ⟨rfl, HB3.out.trans ((HBR.out.trans ((HB9.out.trans ((HB10.out.trans (HB11.out.mono HB10.out.size)).mono HB9.out.size)).mono HBR.out.size)).mono HB3.out.size)⟩
      · by_cases hin : M < R.length
        · obtain ⟨ba, oa, hab, _⟩ := HSR.out.cell 0 (by omega)
          subst hab
          obtain ⟨z, hz⟩ : ∃ z, z = R.getD M default := ⟨_, rfl⟩
          obtain ⟨b3, o3, he3, hcz⟩ := HSR.out.cell M hin
          cases he3
          rw [← hz] at hcz
          have HZ := Lib.hid (range_keep hcz HB9.out)
          obtain ⟨cz, hcz2⟩ : ∃ cz, cz = cmpQ z p := ⟨_, rfl⟩
          have HCZ := Lib.hid hcz2
          have hnn : 0 ≤ cz := by have := fndN_ge (L := R) (q := p) (by rw [← HM.out]; exact hin); rw [← HM.out, ← hz, ← hcz2] at this; exact this
          have HIZ := Lib.hid (show I = decide (z = p) by rw [HI.out]; unfold isN; rw [← HM.out, decide_eq_true hin, ← hz]; simp)
          clear hz hcz hcz2
          refine wp_region_quiet_all (fun w' => Below w9.heap.size w9 w') (by kernel_rfl) (by kernel_rfl) (below_drewN (Below.refl _ _) 1) ?_
          refine WQ.h ?_
          refine wq_valD 93 (.int .i64 (M : Nat)) rfl rfl (fun w' h => by simp [go_sem]) ?_
          simp only [List.setIfInBounds_toArray, List.set_cons_succ, List.set_cons_zero]
          refine wq_valD 94 (.bool false) rfl rfl (fun w' h => by simp [go_sem]; omega) ?_
          simp only [List.setIfInBounds_toArray, List.set_cons_succ, List.set_cons_zero]
          refine wq_valD 95 (.bool false) rfl rfl (fun w' h => by simp [go_sem]) ?_
          simp only [List.setIfInBounds_toArray, List.set_cons_succ, List.set_cons_zero]
          refine wq_skipD 96 rfl rfl ?_
          simp only [List.setIfInBounds_toArray, List.set_cons_succ, List.set_cons_zero]
          refine wq_skipD 97 rfl rfl ?_
          simp only [List.setIfInBounds_toArray, List.set_cons_succ, List.set_cons_zero]
          refine wq_skipD 98 rfl rfl ?_
          simp only [List.setIfInBounds_toArray, List.set_cons_succ, List.set_cons_zero]
          refine wq_skipD 99 rfl rfl ?_
          simp only [List.setIfInBounds_toArray, List.set_cons_succ, List.set_cons_zero]
          refine wq_skipD 100 rfl rfl ?_
          simp only [List.setIfInBounds_toArray, List.set_cons_succ, List.set_cons_zero]
          refine wq_skipD 101 rfl rfl ?_
          simp only [List.setIfInBounds_toArray, List.set_cons_succ, List.set_cons_zero]
          refine wq_skipD 102 rfl rfl ?_
          simp only [List.setIfInBounds_toArray, List.set_cons_succ, List.set_cons_zero]
          refine wq_skipD 103 rfl rfl ?_
          simp only [List.setIfInBounds_toArray, List.set_cons_succ, List.set_cons_zero]
          refine wq_valD 104 (.bool false) rfl rfl (fun w' h => by simp [go_sem]) ?_
          simp only [List.setIfInBounds_toArray, List.set_cons_succ, List.set_cons_zero]
          refine wq_valD 105 (.bool false) rfl rfl (fun w' h => by simp [go_sem]) ?_
          simp only [List.setIfInBounds_toArray, List.set_cons_succ, List.set_cons_zero]
          refine wq_valD 106 (.int .i64 (M : Nat)) rfl rfl (fun w' h => by simp [go_sem]) ?_
          simp only [List.setIfInBounds_toArray, List.set_cons_succ, List.set_cons_zero]
          refine wq_valD 107 (.slice (some ⟨ba, oa, none⟩) R.length rc) rfl rfl (fun w' h => by simp [go_sem]) ?_
          simp only [List.setIfInBounds_toArray, List.set_cons_succ, List.set_cons_zero]
          refine wq_valD 108 (.int .i64 (R.length : Nat)) rfl rfl (fun w' h => by simp [go_sem]) ?_
          simp only [List.setIfInBounds_toArray, List.set_cons_succ, List.set_cons_zero]
          refine wq_valD 109 (.bool true) rfl rfl (fun w' h => by simp [go_sem]; omega) ?_
          simp only [List.setIfInBounds_toArray, List.set_cons_succ, List.set_cons_zero]
          refine wq_valD 110 (.bool true) rfl rfl (fun w' h => by simp [go_sem]) ?_
          simp only [List.setIfInBounds_toArray, List.set_cons_succ, List.set_cons_zero]
          refine wq_valD 111 (.slice (some ⟨ba, oa, none⟩) R.length rc) rfl rfl (fun w' h => by simp [go_sem]) ?_
          simp only [List.setIfInBounds_toArray, List.set_cons_succ, List.set_cons_zero]
          refine wq_valD 112 (.int .i64 (M : Nat)) rfl rfl (fun w' h => by simp [go_sem]) ?_
          simp only [List.setIfInBounds_toArray, List.set_cons_succ, List.set_cons_zero]
          refine wq_valD 113 (.pointer (some ⟨ba, oa + M * 4, none⟩)) rfl rfl (fun w' h => by simp [go_sem, hin]) ?_
          simp only [List.setIfInBounds_toArray, List.set_cons_succ, List.set_cons_zero]
          refine wq_midD 114 rfl rfl 24 (.tmp 113) rfl ba (oa + M * 4) (by simp [go_sem]) (qcs z) _ (fun w' h => range_keep HZ.out h) Try.underlying24 rfl SZ.out ?_
          simp only [List.setIfInBounds_toArray, List.set_cons_succ, List.set_cons_zero]
          refine wq_midD 115 rfl rfl 24 (.tmp 4) rfl w.heap.size (0) (by simp [go_sem]) (qcs p) _ (fun w' h => range_keep HPP.out h) Try.underlying24 rfl SZ.out ?_
          simp only [List.setIfInBounds_toArray, List.set_cons_succ, List.set_cons_zero]
          refine wq_callD 116 (.int .i64 cz) 25 #[qv z, qv p] rfl rfl (fun w' => by simp [go_sem, qv, qcs]) (fun w' h => by rw [HCZ.out]; exact (rcompare_calls w' z p).mono fun e w2 ⟨h1, h2⟩ => ⟨h1, h.trans (h2.mono h.size)⟩) ?_
          simp only [List.setIfInBounds_toArray, List.set_cons_succ, List.set_cons_zero]
          refine wq_valD 117 (.bool false) rfl rfl (fun w' h => by simp [go_sem]; omega) ?_
          simp only [List.setIfInBounds_toArray, List.set_cons_succ, List.set_cons_zero]
          refine wq_valD 118 (.bool false) rfl rfl (fun w' h => by simp [go_sem]) ?_
          simp only [List.setIfInBounds_toArray, List.set_cons_succ, List.set_cons_zero]
          refine wq_valD 119 (.bool false) rfl rfl (fun w' h => by simp [go_sem]) ?_
          simp only [List.setIfInBounds_toArray, List.set_cons_succ, List.set_cons_zero]
          refine wq_valD 120 (.bool false) rfl rfl (fun w' h => by simp [go_sem]) ?_
          simp only [List.setIfInBounds_toArray, List.set_cons_succ, List.set_cons_zero]
          refine wq_valD 121 (.bool I) rfl rfl (fun w' h => by simp [go_sem]) ?_
          simp only [List.setIfInBounds_toArray, List.set_cons_succ, List.set_cons_zero]
          refine wq_valD 122 (.int .i64 (M : Nat)) rfl rfl (fun w' h => by simp [go_sem]) ?_
          simp only [List.setIfInBounds_toArray, List.set_cons_succ, List.set_cons_zero]
          refine wq_valD 123 (.slice (some ⟨ba, oa, none⟩) R.length rc) rfl rfl (fun w' h => by simp [go_sem]) ?_
          simp only [List.setIfInBounds_toArray, List.set_cons_succ, List.set_cons_zero]
          refine wq_valD 124 (.int .i64 (R.length : Nat)) rfl rfl (fun w' h => by simp [go_sem]) ?_
          simp only [List.setIfInBounds_toArray, List.set_cons_succ, List.set_cons_zero]
          refine wq_valD 125 (.bool true) rfl rfl (fun w' h => by simp [go_sem]; omega) ?_
          simp only [List.setIfInBounds_toArray, List.set_cons_succ, List.set_cons_zero]
          refine wq_valD 126 (.bool true) rfl rfl (fun w' h => by simp [go_sem]) ?_
          simp only [List.setIfInBounds_toArray, List.set_cons_succ, List.set_cons_zero]
          refine wq_valD 127 (.slice (some ⟨ba, oa, none⟩) R.length rc) rfl rfl (fun w' h => by simp [go_sem]) ?_
          simp only [List.setIfInBounds_toArray, List.set_cons_succ, List.set_cons_zero]
          refine wq_valD 128 (.int .i64 (M : Nat)) rfl rfl (fun w' h => by simp [go_sem]) ?_
          simp only [List.setIfInBounds_toArray, List.set_cons_succ, List.set_cons_zero]
          refine wq_valD 129 (.pointer (some ⟨ba, oa + M * 4, none⟩)) rfl rfl (fun w' h => by simp [go_sem, hin]) ?_
          simp only [List.setIfInBounds_toArray, List.set_cons_succ, List.set_cons_zero]
          refine wq_midD 130 rfl rfl 24 (.tmp 129) rfl ba (oa + M * 4) (by simp [go_sem]) (qcs z) _ (fun w' h => range_keep HZ.out h) Try.underlying24 rfl SZ.out ?_
          simp only [List.setIfInBounds_toArray, List.set_cons_succ, List.set_cons_zero]
          refine wq_midD 131 rfl rfl 24 (.tmp 4) rfl w.heap.size (0) (by simp [go_sem]) (qcs p) _ (fun w' h => range_keep HPP.out h) Try.underlying24 rfl SZ.out ?_
          simp only [List.setIfInBounds_toArray, List.set_cons_succ, List.set_cons_zero]
          refine wq_valD 132 (.bool I) rfl rfl (fun w' h => by have := eqQ w' z p 9998; rw [← HIZ.out] at this; simp [go_sem, this]) ?_
          simp only [List.setIfInBounds_toArray, List.set_cons_succ, List.set_cons_zero]
          refine wq_valD 133 (.bool I) rfl rfl (fun w' h => by simp [go_sem]) ?_
          simp only [List.setIfInBounds_toArray, List.set_cons_succ, List.set_cons_zero]
          refine wq_valD 134 (.bool false) rfl rfl (fun w' h => by simp [go_sem]) ?_
          simp only [List.setIfInBounds_toArray, List.set_cons_succ, List.set_cons_zero]
          refine wq_valD 135 (.bool false) rfl rfl (fun w' h => by simp [go_sem]) ?_
          simp only [List.setIfInBounds_toArray, List.set_cons_succ, List.set_cons_zero]
          refine wq_nilD ?_
          intro w10 hb10
          have HB10 := Lib.hid hb10
          clear hb10
          have rp := (HB10.out.block _ (Array.getElem?_eq_some_iff.1 ((HB9.out.block _ (Array.getElem?_eq_some_iff.1 HRP2.out).1).trans HRP2.out)).1).trans ((HB9.out.block _ (Array.getElem?_eq_some_iff.1 HRP2.out).1).trans HRP2.out)
          have rq := (HB10.out.block _ (Array.getElem?_eq_some_iff.1 ((HB9.out.block _ (Array.getElem?_eq_some_iff.1 HRQ2.out).1).trans HRQ2.out)).1).trans ((HB9.out.block _ (Array.getElem?_eq_some_iff.1 HRQ2.out).1).trans HRQ2.out)
          have p0 : w10.cell? ⟨w.heap.size, 0, none⟩ = some (.int .i64 p.a) := cell_of_row w10 _ 0 _ _ _ rp
          have q0 : w10.cell? ⟨w.heap.size + 1, 0, none⟩ = some (.int .i64 q.a) := cell_of_row w10 _ 0 _ _ _ rq
          have p1 : w10.cell? ⟨w.heap.size, 1, none⟩ = some (.int .i64 p.b) := cell_of_row w10 _ 1 _ _ _ rp
          have q1 : w10.cell? ⟨w.heap.size + 1, 1, none⟩ = some (.int .i64 q.b) := cell_of_row w10 _ 1 _ _ _ rq
          have p2 : w10.cell? ⟨w.heap.size, 2, none⟩ = some (.int .i64 p.c) := cell_of_row w10 _ 2 _ _ _ rp
          have q2 : w10.cell? ⟨w.heap.size + 1, 2, none⟩ = some (.int .i64 q.c) := cell_of_row w10 _ 2 _ _ _ rq
          have p3 : w10.cell? ⟨w.heap.size, 3, none⟩ = some (.int .i64 p.d) := cell_of_row w10 _ 3 _ _ _ rp
          have q3 : w10.cell? ⟨w.heap.size + 1, 3, none⟩ = some (.int .i64 q.d) := cell_of_row w10 _ 3 _ _ _ rq
          obtain ⟨C, hC⟩ : ∃ C, C = cmpQ p q := ⟨_, rfl⟩
          have hcmp := rcompare_calls w10 p q
          rw [← hC] at hcmp
          have hcmp2 : Calls Try.prog 25 #[.agg #[.int .i64 p.a, .int .i64 p.b, .int .i64 p.c, .int .i64 p.d], .agg #[.int .i64 q.a, .int .i64 q.b, .int .i64 q.c, .int .i64 q.d]] w10 fun e w' => e = .returned (.int .i64 C) ∧ Below w10.heap.size w10 w' := hcmp
          have HCM := Lib.hid hcmp2
          have HC0 := Lib.hid hC
          clear hcmp hcmp2 rp rq hC
          go_upto_region 21 with (go_at_call 25; (with_reducible refine HCM.out.mono ?_); rintro e w11 ⟨rfl, hb⟩; (have HB11 := Lib.hid hb); clear hb)
          rcases Int.lt_trichotomy C 0 with hc | hc | hc
          · have hmn : M ≤ N := by rw [HM.out, HN.out]; exact fndN_mono (by rw [← HC0.out]; omega)
            have e1 : decide ((0 : Int) < C) = false := decide_eq_false (by omega)
            have e2 : decide (C < (0 : Int)) = true := decide_eq_true hc
            have e3 : decide ((M : Int) ≤ (N : Int)) = true := decide_eq_true (by omega)
            have e4 : ¬ C = 0 := by omega
            go_wp2_with fail
            go_ret
            exact ⟨rfl, HB3.out.trans ((HBR.out.trans ((HB9.out.trans ((HB10.out.trans (HB11.out.mono HB10.out.size)).mono HB9.out.size)).mono HBR.out.size)).mono HB3.out.size)⟩
          · have hmn : M = N := by rw [HM.out, HN.out, cmp_zero (p := p) (q := q) (by rw [← HC0.out]; exact hc)]
            have hij : I = J := by rw [HI.out, HJ.out, cmp_zero (p := p) (q := q) (by rw [← HC0.out]; exact hc)]
            subst hc
            rw [← hmn, ← hij]
            go_wp2_with fail
            go_ret
            exact ⟨rfl, HB3.out.trans ((HBR.out.trans ((HB9.out.trans ((HB10.out.trans (HB11.out.mono HB10.out.size)).mono HB9.out.size)).mono HBR.out.size)).mono HB3.out.size)⟩
          · have hmn : N ≤ M := by rw [HM.out, HN.out]; rcases inv_ge (M := R) (p := p) (q := q) with g | g; (rw [← HC0.out] at g; omega); exact g
            have e1 : decide ((0 : Int) < C) = true := decide_eq_true hc
            have e2 : decide (C < (0 : Int)) = false := decide_eq_false (by omega)
            have e3 : decide ((N : Int) ≤ (M : Int)) = true := decide_eq_true (by omega)
            have e4 : ¬ C = 0 := by omega
            go_wp2_with fail
            go_ret
            exact ⟨rfl, HB3.out.trans ((HBR.out.trans ((HB9.out.trans ((HB10.out.trans (HB11.out.mono HB10.out.size)).mono HB9.out.size)).mono HBR.out.size)).mono HB3.out.size)⟩
        · have HIZ := Lib.hid (show I = false by rw [HI.out]; unfold isN; rw [← HM.out, decide_eq_false hin]; rfl)
          refine wp_region_quiet_all (fun w' => Below w9.heap.size w9 w') (by kernel_rfl) (by kernel_rfl) (below_drewN (Below.refl _ _) 1) ?_
          refine WQ.h ?_
          refine wq_valD 93 (.int .i64 (M : Nat)) rfl rfl (fun w' h => by simp [go_sem]) ?_
          simp only [List.setIfInBounds_toArray, List.set_cons_succ, List.set_cons_zero]
          refine wq_valD 94 (.bool false) rfl rfl (fun w' h => by simp [go_sem]; omega) ?_
          simp only [List.setIfInBounds_toArray, List.set_cons_succ, List.set_cons_zero]
          refine wq_valD 95 (.bool false) rfl rfl (fun w' h => by simp [go_sem]) ?_
          simp only [List.setIfInBounds_toArray, List.set_cons_succ, List.set_cons_zero]
          refine wq_skipD 96 rfl rfl ?_
          simp only [List.setIfInBounds_toArray, List.set_cons_succ, List.set_cons_zero]
          refine wq_skipD 97 rfl rfl ?_
          simp only [List.setIfInBounds_toArray, List.set_cons_succ, List.set_cons_zero]
          refine wq_skipD 98 rfl rfl ?_
          simp only [List.setIfInBounds_toArray, List.set_cons_succ, List.set_cons_zero]
          refine wq_skipD 99 rfl rfl ?_
          simp only [List.setIfInBounds_toArray, List.set_cons_succ, List.set_cons_zero]
          refine wq_skipD 100 rfl rfl ?_
          simp only [List.setIfInBounds_toArray, List.set_cons_succ, List.set_cons_zero]
          refine wq_skipD 101 rfl rfl ?_
          simp only [List.setIfInBounds_toArray, List.set_cons_succ, List.set_cons_zero]
          refine wq_skipD 102 rfl rfl ?_
          simp only [List.setIfInBounds_toArray, List.set_cons_succ, List.set_cons_zero]
          refine wq_skipD 103 rfl rfl ?_
          simp only [List.setIfInBounds_toArray, List.set_cons_succ, List.set_cons_zero]
          refine wq_valD 104 (.bool false) rfl rfl (fun w' h => by simp [go_sem]) ?_
          simp only [List.setIfInBounds_toArray, List.set_cons_succ, List.set_cons_zero]
          refine wq_valD 105 (.bool false) rfl rfl (fun w' h => by simp [go_sem]) ?_
          simp only [List.setIfInBounds_toArray, List.set_cons_succ, List.set_cons_zero]
          refine wq_valD 106 (.int .i64 (M : Nat)) rfl rfl (fun w' h => by simp [go_sem]) ?_
          simp only [List.setIfInBounds_toArray, List.set_cons_succ, List.set_cons_zero]
          refine wq_valD 107 (.slice ra R.length rc) rfl rfl (fun w' h => by simp [go_sem]) ?_
          simp only [List.setIfInBounds_toArray, List.set_cons_succ, List.set_cons_zero]
          refine wq_valD 108 (.int .i64 (R.length : Nat)) rfl rfl (fun w' h => by simp [go_sem]) ?_
          simp only [List.setIfInBounds_toArray, List.set_cons_succ, List.set_cons_zero]
          refine wq_valD 109 (.bool false) rfl rfl (fun w' h => by simp [go_sem]; omega) ?_
          simp only [List.setIfInBounds_toArray, List.set_cons_succ, List.set_cons_zero]
          refine wq_valD 110 (.bool false) rfl rfl (fun w' h => by simp [go_sem]) ?_
          simp only [List.setIfInBounds_toArray, List.set_cons_succ, List.set_cons_zero]
          refine wq_skipD 111 rfl rfl ?_
          simp only [List.setIfInBounds_toArray, List.set_cons_succ, List.set_cons_zero]
          refine wq_skipD 112 rfl rfl ?_
          simp only [List.setIfInBounds_toArray, List.set_cons_succ, List.set_cons_zero]
          refine wq_skipD 113 rfl rfl ?_
          simp only [List.setIfInBounds_toArray, List.set_cons_succ, List.set_cons_zero]
          refine wq_skipD 114 rfl rfl ?_
          simp only [List.setIfInBounds_toArray, List.set_cons_succ, List.set_cons_zero]
          refine wq_skipD 115 rfl rfl ?_
          simp only [List.setIfInBounds_toArray, List.set_cons_succ, List.set_cons_zero]
          refine wq_skipD 116 rfl rfl ?_
          simp only [List.setIfInBounds_toArray, List.set_cons_succ, List.set_cons_zero]
          refine wq_skipD 117 rfl rfl ?_
          simp only [List.setIfInBounds_toArray, List.set_cons_succ, List.set_cons_zero]
          refine wq_valD 118 (.bool false) rfl rfl (fun w' h => by simp [go_sem]) ?_
          simp only [List.setIfInBounds_toArray, List.set_cons_succ, List.set_cons_zero]
          refine wq_valD 119 (.bool false) rfl rfl (fun w' h => by simp [go_sem]) ?_
          simp only [List.setIfInBounds_toArray, List.set_cons_succ, List.set_cons_zero]
          refine wq_valD 120 (.bool false) rfl rfl (fun w' h => by simp [go_sem]) ?_
          simp only [List.setIfInBounds_toArray, List.set_cons_succ, List.set_cons_zero]
          refine wq_valD 121 (.bool I) rfl rfl (fun w' h => by simp [go_sem]) ?_
          simp only [List.setIfInBounds_toArray, List.set_cons_succ, List.set_cons_zero]
          refine wq_valD 122 (.int .i64 (M : Nat)) rfl rfl (fun w' h => by simp [go_sem]) ?_
          simp only [List.setIfInBounds_toArray, List.set_cons_succ, List.set_cons_zero]
          refine wq_valD 123 (.slice ra R.length rc) rfl rfl (fun w' h => by simp [go_sem]) ?_
          simp only [List.setIfInBounds_toArray, List.set_cons_succ, List.set_cons_zero]
          refine wq_valD 124 (.int .i64 (R.length : Nat)) rfl rfl (fun w' h => by simp [go_sem]) ?_
          simp only [List.setIfInBounds_toArray, List.set_cons_succ, List.set_cons_zero]
          refine wq_valD 125 (.bool false) rfl rfl (fun w' h => by simp [go_sem]; omega) ?_
          simp only [List.setIfInBounds_toArray, List.set_cons_succ, List.set_cons_zero]
          refine wq_valD 126 (.bool false) rfl rfl (fun w' h => by simp [go_sem]) ?_
          simp only [List.setIfInBounds_toArray, List.set_cons_succ, List.set_cons_zero]
          refine wq_skipD 127 rfl rfl ?_
          simp only [List.setIfInBounds_toArray, List.set_cons_succ, List.set_cons_zero]
          refine wq_skipD 128 rfl rfl ?_
          simp only [List.setIfInBounds_toArray, List.set_cons_succ, List.set_cons_zero]
          refine wq_skipD 129 rfl rfl ?_
          simp only [List.setIfInBounds_toArray, List.set_cons_succ, List.set_cons_zero]
          refine wq_skipD 130 rfl rfl ?_
          simp only [List.setIfInBounds_toArray, List.set_cons_succ, List.set_cons_zero]
          refine wq_skipD 131 rfl rfl ?_
          simp only [List.setIfInBounds_toArray, List.set_cons_succ, List.set_cons_zero]
          refine wq_skipD 132 rfl rfl ?_
          simp only [List.setIfInBounds_toArray, List.set_cons_succ, List.set_cons_zero]
          refine wq_valD 133 (.bool false) rfl rfl (fun w' h => by simp [go_sem]) ?_
          simp only [List.setIfInBounds_toArray, List.set_cons_succ, List.set_cons_zero]
          refine wq_valD 134 (.bool false) rfl rfl (fun w' h => by simp [go_sem, HIZ.out]) ?_
          simp only [List.setIfInBounds_toArray, List.set_cons_succ, List.set_cons_zero]
          refine wq_valD 135 (.bool false) rfl rfl (fun w' h => by simp [go_sem]) ?_
          simp only [List.setIfInBounds_toArray, List.set_cons_succ, List.set_cons_zero]
          refine wq_nilD ?_
          intro w10 hb10
          have HB10 := Lib.hid hb10
          clear hb10
          have rp := (HB10.out.block _ (Array.getElem?_eq_some_iff.1 ((HB9.out.block _ (Array.getElem?_eq_some_iff.1 HRP2.out).1).trans HRP2.out)).1).trans ((HB9.out.block _ (Array.getElem?_eq_some_iff.1 HRP2.out).1).trans HRP2.out)
          have rq := (HB10.out.block _ (Array.getElem?_eq_some_iff.1 ((HB9.out.block _ (Array.getElem?_eq_some_iff.1 HRQ2.out).1).trans HRQ2.out)).1).trans ((HB9.out.block _ (Array.getElem?_eq_some_iff.1 HRQ2.out).1).trans HRQ2.out)
          have p0 : w10.cell? ⟨w.heap.size, 0, none⟩ = some (.int .i64 p.a) := cell_of_row w10 _ 0 _ _ _ rp
          have q0 : w10.cell? ⟨w.heap.size + 1, 0, none⟩ = some (.int .i64 q.a) := cell_of_row w10 _ 0 _ _ _ rq
          have p1 : w10.cell? ⟨w.heap.size, 1, none⟩ = some (.int .i64 p.b) := cell_of_row w10 _ 1 _ _ _ rp
          have q1 : w10.cell? ⟨w.heap.size + 1, 1, none⟩ = some (.int .i64 q.b) := cell_of_row w10 _ 1 _ _ _ rq
          have p2 : w10.cell? ⟨w.heap.size, 2, none⟩ = some (.int .i64 p.c) := cell_of_row w10 _ 2 _ _ _ rp
          have q2 : w10.cell? ⟨w.heap.size + 1, 2, none⟩ = some (.int .i64 q.c) := cell_of_row w10 _ 2 _ _ _ rq
          have p3 : w10.cell? ⟨w.heap.size, 3, none⟩ = some (.int .i64 p.d) := cell_of_row w10 _ 3 _ _ _ rp
          have q3 : w10.cell? ⟨w.heap.size + 1, 3, none⟩ = some (.int .i64 q.d) := cell_of_row w10 _ 3 _ _ _ rq
          obtain ⟨C, hC⟩ : ∃ C, C = cmpQ p q := ⟨_, rfl⟩
          have hcmp := rcompare_calls w10 p q
          rw [← hC] at hcmp
          have hcmp2 : Calls Try.prog 25 #[.agg #[.int .i64 p.a, .int .i64 p.b, .int .i64 p.c, .int .i64 p.d], .agg #[.int .i64 q.a, .int .i64 q.b, .int .i64 q.c, .int .i64 q.d]] w10 fun e w' => e = .returned (.int .i64 C) ∧ Below w10.heap.size w10 w' := hcmp
          have HCM := Lib.hid hcmp2
          have HC0 := Lib.hid hC
          clear hcmp hcmp2 rp rq hC
          go_upto_region 21 with (go_at_call 25; (with_reducible refine HCM.out.mono ?_); rintro e w11 ⟨rfl, hb⟩; (have HB11 := Lib.hid hb); clear hb)
          rcases Int.lt_trichotomy C 0 with hc | hc | hc
          · have hmn : M ≤ N := by rw [HM.out, HN.out]; exact fndN_mono (by rw [← HC0.out]; omega)
            have e1 : decide ((0 : Int) < C) = false := decide_eq_false (by omega)
            have e2 : decide (C < (0 : Int)) = true := decide_eq_true hc
            have e3 : decide ((M : Int) ≤ (N : Int)) = true := decide_eq_true (by omega)
            have e4 : ¬ C = 0 := by omega
            go_wp2_with fail
            go_ret
            exact ⟨rfl, HB3.out.trans ((HBR.out.trans ((HB9.out.trans ((HB10.out.trans (HB11.out.mono HB10.out.size)).mono HB9.out.size)).mono HBR.out.size)).mono HB3.out.size)⟩
          · have hmn : M = N := by rw [HM.out, HN.out, cmp_zero (p := p) (q := q) (by rw [← HC0.out]; exact hc)]
            have hij : I = J := by rw [HI.out, HJ.out, cmp_zero (p := p) (q := q) (by rw [← HC0.out]; exact hc)]
            subst hc
            rw [← hmn, ← hij]
            go_wp2_with fail
            go_ret
            exact ⟨rfl, HB3.out.trans ((HBR.out.trans ((HB9.out.trans ((HB10.out.trans (HB11.out.mono HB10.out.size)).mono HB9.out.size)).mono HBR.out.size)).mono HB3.out.size)⟩
          · have hmn : N ≤ M := by rw [HM.out, HN.out]; rcases inv_ge (M := R) (p := p) (q := q) with g | g; (rw [← HC0.out] at g; omega); exact g
            have e1 : decide ((0 : Int) < C) = true := decide_eq_true hc
            have e2 : decide (C < (0 : Int)) = false := decide_eq_false (by omega)
            have e3 : decide ((N : Int) ≤ (M : Int)) = true := decide_eq_true (by omega)
            have e4 : ¬ C = 0 := by omega
            go_wp2_with fail
            go_ret
            exact ⟨rfl, HB3.out.trans ((HBR.out.trans ((HB9.out.trans ((HB10.out.trans (HB11.out.mono HB10.out.size)).mono HB9.out.size)).mono HBR.out.size)).mono HB3.out.size)⟩
theorem tinverse_in (w : World) (a : Option Addr) (n c : Nat) (L : List Qd) (h : SlQ w a n c L) (hn : a = none → c = 0) (ho : ∀ q ∈ L, QdOk q) (hc : c ≤ 4398046510976) (p q : Qd) :
    Calls Try.prog 5 #[.slice a n c, .agg #[.int .i64 p.a, .int .i64 p.b, .int .i64 p.c, .int .i64 p.d], .agg #[.int .i64 q.a, .int .i64 q.b, .int .i64 q.c, .int .i64 q.d]] w fun e w' => e = .returned (.bool true) ∧ Below w.heap.size w w' :=
  tinverse_go w a n c L h (by have := h.le; omega) p q
end Go.Proofs.Ytgajpekolamjbaa
