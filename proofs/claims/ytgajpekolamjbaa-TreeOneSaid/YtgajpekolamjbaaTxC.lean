/- TwI TyA TyW TxB TxC, laid as one. -/
import Derived.Test.YtgajpekolamjbaaTwH
import Derived.Test.YtgajpekolamjbaaTwB
import Derived.Test.YtgajpekolamjbaaTpF
import Derived.Test.YtgajpekolamjbaaTrI
import Derived.Test.YtgajpekolamjbaaTrH
import Derived.Test.YtgajpekolamjbaaTxA
import Derived.Test.YtgajpekolamjbaaTpG
set_option linter.unusedVariables false
set_option linter.unusedSimpArgs false
/- asked: is each answer the document's? Match, Count. -/
namespace Go.Proofs.Ytgajpekolamjbaa
open Go Go.RowKit Go.Tk
theorem agS_succ (L : List Qd) (p : Qd) (i : Nat) : agS L p (i + 1) = agS L p i ++ if agK p (qAt L i) 4 = true then [i] else [] := by
  unfold agS
  rw [seg_app (show 0 ≤ i by omega) (show i ≤ i + 1 by omega), List.filter_append, seg_one]
  by_cases h : agK p (qAt L i) 4 = true
  · rw [if_pos h]; simp [h]
  · rw [if_neg h]; simp [h]
theorem agS_len (L : List Qd) (p : Qd) (i : Nat) : (agS L p i).length ≤ i := by
  have := List.length_filter_le (fun t => agK p (qAt L t) 4) (seg 0 i)
  rw [seg_len] at this
  exact this
set_option maxRecDepth 100000 in
set_option maxHeartbeats 4000000 in
theorem asked_match4 (w : World) (gd : Nat) (b : List UInt8) (a : Option Addr) (cap : Nat) (vp : Nat → Option Addr) (hT : TreeM w gd b a cap vp) (L : List Qd) (B : Blt b L) (al : Option Addr) (cl : Nat) (hs : SlQ w al L.length cl L) (N : Int) (hN : -9223372036854775808 ≤ N ∧ N ≤ 9223372036854775807) (q : Qd) (M : Int) (hM : -9223372036854775808 ≤ M ∧ M ≤ 9223372036854775807) :
    Calls Try.prog 18 #[.pointer (some ⟨gd, 0, none⟩), .slice al L.length cl, .agg #[.int .i64 4, .int .i64 N, .int .i64 q.a, .int .i64 q.b, .int .i64 q.c, .int .i64 q.d, .int .i64 M]] w fun e w' => e = .returned (.bool true) ∧ Below w.heap.size w w' := by
  obtain ⟨Mn, hMn⟩ : ∃ Mn : Nat, Mn = M.toNat := ⟨_, rfl⟩
  have hmx : max (0 : Int) M = (Mn : Nat) := by omega
  have hMn2 : Mn ≤ 9223372036854775807 := by omega
  obtain ⟨n, hn⟩ : ∃ n, n = L.length := ⟨_, rfl⟩
  have hn20 : n ≤ 1048576 := by rw [hn]; exact B.right.len
  have hcap := hs.le
  have hN3 : tN b 3 = n := by rw [hn]; have := B.n 3 (by omega); rw [posL_three B.right _ (Nat.le_refl _)] at this; exact this
  have hB0 : Below w.heap.size w (w.alloc (.cells #[.int .i64 4, .int .i64 N, .int .i64 q.a, .int .i64 q.b, .int .i64 q.c, .int .i64 q.d, .int .i64 M] 49)) := (Below.refl _ _).alloc (Nat.le_refl _) _
  have hg0 := heap_alloc_new w (.cells #[.int .i64 4, .int .i64 N, .int .i64 q.a, .int .i64 q.b, .int .i64 q.c, .int .i64 q.d, .int .i64 M] 49)
  have hz0 : w.heap.size < (w.alloc (.cells #[.int .i64 4, .int .i64 N, .int .i64 q.a, .int .i64 q.b, .int .i64 q.c, .int .i64 q.d, .int .i64 M] 49)).heap.size := by simp
  rw [← hn] at hs hcap ⊢
  have HT := Lib.hid hT
  have HS := Lib.hid hs
  have HN := Lib.hid hn
  have HN3 := Lib.hid hN3
  have HMN := Lib.hid hMn
  have HBL := Lib.hid B
  clear hT hs hn hN3 hMn B
  go_enter Try.func18, Try.ntmps18
  go_upto_region 1 with fail
  generalize w.alloc (.cells #[.int .i64 4, .int .i64 N, .int .i64 q.a, .int .i64 q.b, .int .i64 q.c, .int .i64 q.d, .int .i64 M] 49) = w0 at hB0 hg0 hz0 ⊢
  have a0 := cell_of_row w0 w.heap.size 0 _ _ _ hg0
  have a1 := cell_of_row w0 w.heap.size 1 _ _ _ hg0
  have a2 := cell_of_row w0 w.heap.size 2 _ _ _ hg0
  have a3 := cell_of_row w0 w.heap.size 3 _ _ _ hg0
  have a4 := cell_of_row w0 w.heap.size 4 _ _ _ hg0
  have a5 := cell_of_row w0 w.heap.size 5 _ _ _ hg0
  have a6 := cell_of_row w0 w.heap.size 6 _ _ _ hg0
  simp only [List.getElem?_toArray, List.getElem?_cons_zero, List.getElem?_cons_succ] at a0 a1 a2 a3 a4 a5 a6
  have HB0 := Lib.hid hB0
  have HG0 := Lib.hid hg0
  have HT0 := Lib.hid (HT.out.below hB0)
  have HS0 := Lib.hid (HS.out.keep hB0)
  have hzz := hB0.size
  clear hB0 hg0
  obtain ⟨i0, hi, hz0', hz1, hz2⟩ := info_parts Try.infoSeen
  have HI := Lib.hid hi
  have HZ0 := Lib.hid hz0'
  have HZ1 := Lib.hid hz1
  have HZ2 := Lib.hid hz2
  have SZ := Lib.hid Try.sizeIds
  clear hi hz0' hz1 hz2
  have hqr : w0.rangeAt w.heap.size 2 (qcs q) := fun j v hv => by
    have hj : j < 4 := by have := (List.getElem?_eq_some_iff.1 hv).1; simpa [qcs] using this
    rcases (by omega : j = 0 ∨ j = 1 ∨ j = 2 ∨ j = 3) with rfl | rfl | rfl | rfl
    · obtain rfl : Value.int .i64 q.a = v := by simpa [qcs] using hv
      exact a2
    · obtain rfl : Value.int .i64 q.b = v := by simpa [qcs] using hv
      exact a3
    · obtain rfl : Value.int .i64 q.c = v := by simpa [qcs] using hv
      exact a4
    · obtain rfl : Value.int .i64 q.d = v := by simpa [qcs] using hv
      exact a5
  have HQ0 := Lib.hid hqr
  have HA6 := Lib.hid a6
  clear hqr
  obtain ⟨wl, hwl⟩ : ∃ wl, wl = w0 := ⟨_, rfl⟩
  have HWL := Lib.hid hwl
  clear hwl
  go_wp2_with fail
  go_loopw [18, 19, 8] (fun nv iv v wr => ∃ (i : Nat) (v' : Value), nv = .int .i64 ((agS L q i).length : Nat) ∧ iv = .int .i64 (i : Nat) ∧ v = v' ∧ i ≤ n ∧ wr.ownsRow wl.heap.size 69 5 v' (((agS L q i).take Mn).length) (sqCs (((agS L q i).take Mn).map (qW L))) ∧ Below wl.heap.size wl wr) (fun _ iv _ _ => n - (intOf iv).toNat)
  case atStart => exact ⟨0, _, rfl, rfl, rfl, Nat.zero_le _, by rw [show agS L q 0 = [] from rfl, List.take_nil]; exact World.ownsRow_nil _ _ _ _, by rw [HWL.out]; exact Below.refl _ _⟩
  case round =>
    rename World => wr
    obtain ⟨i, v, rfl, rfl, rfl, hi1, hrow, hbr⟩ := hrel
    have hzr := hbr.size
    have HBR := Lib.hid hbr
    have HBR0 := Lib.hid (show Below w0.heap.size w0 wr by rw [← HWL.out]; exact hbr)
    have hzr0 := HBR0.out.size
    obtain ⟨av, cv, hv⟩ := ownsRow_slice hrow
    obtain ⟨m, hm⟩ : ∃ m, m = ((agS L q i).take Mn).length := ⟨_, rfl⟩
    obtain ⟨cn, hcn⟩ : ∃ cn, cn = (agS L q i).length := ⟨_, rfl⟩
    have hcni : cn ≤ i := by rw [hcn]; exact agS_len L q i
    have hmcn : m ≤ Mn ∧ m ≤ cn ∧ (m = Mn ∨ m = cn) := by have h0 : m = min Mn cn := (by rw [hm, List.length_take, ← hcn]); omega
    rw [← hm] at hv hrow
    rw [← hcn]
    subst hv
    have HROW := Lib.hid hrow
    have HM := Lib.hid hm
    have HCN := Lib.hid hcn
    have hmn : m ≤ 1048576 := by omega
    have HQR := Lib.hid (range_keep HQ0.out HBR0.out)
    clear hbr hrow hm hcn
    by_cases hin : i < n
    · have e1 : decide ((i : Int) < (n : Int)) = true := decide_eq_true (by omega)
      obtain ⟨bq, oq, hab, hcq⟩ := (HS0.out.keep HBR0.out).cell i hin
      subst hab
      obtain ⟨x, hx⟩ : ∃ x, x = qAt L i := ⟨_, rfl⟩
      have HC := Lib.hid (show wr.rangeAt bq (oq + i * 4) (qcs x) by rw [hx]; exact hcq)
      obtain ⟨bb, hbb⟩ : ∃ bb, bb = agK q x 4 := ⟨_, rfl⟩
      have HBB2 := Lib.hid hbb
      have hsucc := agS_succ L q i
      rw [← hx, ← hbb] at hsucc
      have HSC := Lib.hid hsucc
      have hsn := sq_snoc HBL.out.right ((agS L q i).take Mn) (t := i) (by rw [← HN.out]; exact hin)
      rw [← hx] at hsn
      have HSN := Lib.hid hsn
      clear hcq hx hbb hsucc hsn
      go_upto_region 28 with fail
      refine wp_region_quiet_all (fun w' => Below wr.heap.size wr w') (by kernel_rfl) (by kernel_rfl) (below_drewN (Below.refl _ _) 1) ?_
      refine WQ.h ?_
      refine wq_valD 144 (.pointer (some ⟨w.heap.size, 2, none⟩)) rfl rfl (fun w' h => by simp [go_sem]) ?_
      simp only [List.setIfInBounds_toArray, List.set_cons_succ, List.set_cons_zero]
      refine wq_midD 145 rfl rfl 24 (.tmp 144) rfl w.heap.size (2) (by simp [go_sem]) (qcs q) _ (fun w' h => range_keep HQR.out h) Try.underlying24 rfl SZ.out ?_
      simp only [List.setIfInBounds_toArray, List.set_cons_succ, List.set_cons_zero]
      refine wq_valD 146 (.slice (some ⟨bq, oq, none⟩) n cl) rfl rfl (fun w' h => by simp [go_sem]) ?_
      simp only [List.setIfInBounds_toArray, List.set_cons_succ, List.set_cons_zero]
      refine wq_valD 147 (.int .i64 (i : Nat)) rfl rfl (fun w' h => by simp [go_sem]) ?_
      simp only [List.setIfInBounds_toArray, List.set_cons_succ, List.set_cons_zero]
      refine wq_valD 148 (.pointer (some ⟨bq, oq + i * 4, none⟩)) rfl rfl (fun w' h => by simp [go_sem, hin]) ?_
      simp only [List.setIfInBounds_toArray, List.set_cons_succ, List.set_cons_zero]
      refine wq_midD 149 rfl rfl 24 (.tmp 148) rfl bq (oq + i * 4) (by simp [go_sem]) (qcs x) _ (fun w' h => range_keep HC.out h) Try.underlying24 rfl SZ.out ?_
      simp only [List.setIfInBounds_toArray, List.set_cons_succ, List.set_cons_zero]
      refine wq_callD 150 (.bool bb) 28 #[.agg (qcs q).toArray, .agg (qcs x).toArray] rfl rfl (fun w' => by simp [go_sem, qv, qcs]) (fun w' h => by rw [HBB2.out]; exact (agrees_calls w' q x).mono fun e w2 ⟨h1, h2⟩ => ⟨h1, h.trans (h2.mono h.size)⟩) ?_
      simp only [List.setIfInBounds_toArray, List.set_cons_succ, List.set_cons_zero]
      refine wq_valD 20 (.bool bb) rfl rfl (fun w' h => by simp [go_sem]) ?_
      simp only [List.setIfInBounds_toArray, List.set_cons_succ, List.set_cons_zero]
      refine wq_nilD ?_
      intro w2 hb2
      have hz2 := hb2.size
      have HB2 := Lib.hid (HBR.out.trans (hb2.mono hzr))
      have HRW2 := Lib.hid (row_below HROW.out hb2)
      have HC2 := Lib.hid (range_keep HC.out hb2)
      clear hb2
      cases bb with
      | false =>
        have hsc := HSC.out
        rw [if_neg (by simp), List.append_nil] at hsc
        have HSC2 := Lib.hid hsc
        clear hsc
        go_wp2_with fail
        refine ⟨⟨i + 1, _, ?_, by go_num, rfl, by omega, by rw [HSC2.out, ← HM.out]; exact HRW2.out, HB2.out⟩, by simp [intOf]; omega⟩
        rw [HSC2.out, ← HCN.out]
      | true =>
        have hsc := HSC.out
        rw [if_pos rfl] at hsc
        have HSC2 := Lib.hid hsc
        clear hsc
        have hcn1 : (cn : Int) + 1 = ((cn + 1 : Nat) : Int) := by omega
        have HC1 := Lib.hid hcn1
        clear hcn1
        by_cases hmM : m < Mn
        · have e2 : decide ((m : Int) < (Mn : Int)) = true := decide_eq_true (by omega)
          have htk : (agS L q (i + 1)).take Mn = (agS L q i).take Mn ++ [i] := by
            rw [HSC2.out, List.take_of_length_le (by rw [List.length_append, ← HCN.out]; simp; omega), List.take_of_length_le (by rw [← HCN.out]; omega)]
          have HTK := Lib.hid htk
          have hcq := HC2.out
          have y0 : w2.cell? ⟨bq, oq + i * 4, none⟩ = some (.int .i64 x.a) := qcs_at hcq 0 (by omega)
          have y1 : w2.cell? ⟨bq, oq + i * 4 + 1, none⟩ = some (.int .i64 x.b) := qcs_at hcq 1 (by omega)
          have y2 : w2.cell? ⟨bq, oq + i * 4 + 2, none⟩ = some (.int .i64 x.c) := qcs_at hcq 2 (by omega)
          have y3 : w2.cell? ⟨bq, oq + i * 4 + 3, none⟩ = some (.int .i64 x.d) := qcs_at hcq 3 (by omega)
          clear htk hcq
          go_wp2_with (at_builtin; (refine wpList_append_own _ rfl _ _ 63 rfl wl.heap.size 69 i0 (.agg #[.int .i64 0, .int .i64 0, .int .i64 0, .int .i64 0, .int .i64 0]) 5 40 Try.underlying63 HI.out HZ0.out HZ1.out HZ2.out rfl (by decide) _ _ _ rfl (HRW2.out.alloc _) ⟨w2.heap.size, 0, none⟩ 1 1 [.int .i64 (i : Nat), .int .i64 x.a, .int .i64 x.b, .int .i64 x.c, .int .i64 x.d] rfl rfl (cells_new _ _ _) (by simp [Value.oneCell']) (by unfold maxLen; omega) (by omega) (by simp; omega) ?_; intro v' w5 hown' hgrow _; (have HR5 := Lib.hid hown'); (have HB5 := Lib.hid (row_grown HRW2.out (by omega) hgrow)); clear hown' hgrow))
          refine ⟨⟨i + 1, v', ?_, by go_num, rfl, by omega, by rw [HTK.out, HSN.out, List.length_append, ← HM.out]; exact HR5.out, HB2.out.trans (HB5.out.mono (Nat.le_refl _))⟩, by simp [intOf]; omega⟩
          rw [HSC2.out, List.length_append, ← HCN.out]; first | rfl | go_num
        · have e2 : decide ((m : Int) < (Mn : Int)) = false := decide_eq_false (by omega)
          have htk : (agS L q (i + 1)).take Mn = (agS L q i).take Mn := by
            rw [HSC2.out, List.take_append_of_le_length (by rw [← HCN.out]; omega)]
          have HTK := Lib.hid htk
          clear htk
          go_wp2_with fail
          refine ⟨⟨i + 1, _, ?_, by go_num, rfl, by omega, by rw [HTK.out, ← HM.out]; exact HRW2.out, HB2.out⟩, by simp [intOf]; omega⟩
          rw [HSC2.out, List.length_append, ← HCN.out]; first | rfl | go_num
    · have e1 : decide ((i : Int) < (n : Int)) = false := decide_eq_false (by omega)
      have hin2 : i = n := by omega
      have hgs := take_sq HBL.out.right (ts := agS L q n) (fun t ht => by
        unfold agS at ht
        have := seg_mem.1 (List.mem_filter.1 ht).1; have := HN.out; omega) (by have := HBL.out.match q; rw [← HN.out] at this; exact this) Mn
      have hT2 := HT0.out.below HBR0.out
      have hw := tmatched_calls wr gd b a cap vp hT2 q Mn hMn2 _ rfl
      rw [hgs.1, hgs.2] at hw
      obtain ⟨W, hW⟩ : ∃ W, W = ((agS L q n).take Mn).map (qW L) := ⟨_, rfl⟩
      rw [← hW] at hw
      have hWl : W.length ≤ 1048576 := by rw [hW, List.length_map, ← hin2, ← HM.out]; exact hmn
      have hw2 : Calls Try.prog 29 #[.pointer (some ⟨gd, 0, none⟩), .agg #[.int .i64 q.a, .int .i64 q.b, .int .i64 q.c, .int .i64 q.d], .int .i64 (Mn : Nat)] wr _ := hw
      have hrw : wr.ownsRow wl.heap.size 69 5 (.slice av m cv) W.length (sqCs W) := by rw [hW, List.length_map, ← hin2, ← HM.out]; exact HROW.out
      have HRW := Lib.hid hrw
      have HW := Lib.hid hw2
      have hct := fun X (hX : Below w0.heap.size w0 X) => tcount_calls X gd b a cap vp (HT0.out.below hX) q
      simp only [HBL.out.count q, ← HN.out, ← hin2, ← HCN.out] at hct
      have HCT := Lib.hid (show ∀ X, Below w0.heap.size w0 X → Calls Try.prog 31 #[.pointer (some ⟨gd, 0, none⟩), .agg #[.int .i64 q.a, .int .i64 q.b, .int .i64 q.c, .int .i64 q.d]] X fun e w' => e = .returned (.int .i64 (cn : Nat)) ∧ Below X.heap.size X w' from hct)
      have he : ((cn : Int) == (cn : Int)) = true := by simp
      have b2 := (HBR0.out.cell (p := ⟨w.heap.size, 2, none⟩) hz0).trans a2
      have b3 := (HBR0.out.cell (p := ⟨w.heap.size, 3, none⟩) hz0).trans a3
      have b4 := (HBR0.out.cell (p := ⟨w.heap.size, 4, none⟩) hz0).trans a4
      have b5 := (HBR0.out.cell (p := ⟨w.heap.size, 5, none⟩) hz0).trans a5
      clear hgs hw hw2 hW hct hrw hT2 hin2
      go_upto_region 34 with (go_at_call 29; (with_reducible refine HW.out.mono ?_); rintro e w5 ⟨vg, rfl, hgr, hb5⟩; (have HGR := Lib.hid hgr); (have HB5 := Lib.hid hb5); clear hgr hb5)
      have same := sameSeen_calls w5 _ _ _ _ W (by omega) HGR.out (row_below HRW.out HB5.out)
      have HSM := Lib.hid same
      have hb05 := HBR0.out.trans (HB5.out.mono hzr0)
      have HB05 := Lib.hid hb05
      have c2 := (hb05.cell (p := ⟨w.heap.size, 2, none⟩) hz0).trans a2
      have c3 := (hb05.cell (p := ⟨w.heap.size, 3, none⟩) hz0).trans a3
      have c4 := (hb05.cell (p := ⟨w.heap.size, 4, none⟩) hz0).trans a4
      have c5 := (hb05.cell (p := ⟨w.heap.size, 5, none⟩) hz0).trans a5
      clear same hb05 b2 b3 b4 b5
      go_wp2_with (first
        | (go_at_call 30; (with_reducible refine HSM.out.mono ?_); rintro e w6 ⟨rfl, q6, hq6⟩; (have HB6 := Lib.hid (show Below w0.heap.size w0 w6 by rw [hq6]; exact below_drewN HB05.out q6)); (have d2 : w6.cell? ⟨w.heap.size, 2, none⟩ = some (.int .i64 q.a) := by rw [hq6]; exact c2); (have d3 : w6.cell? ⟨w.heap.size, 3, none⟩ = some (.int .i64 q.b) := by rw [hq6]; exact c3); (have d4 : w6.cell? ⟨w.heap.size, 4, none⟩ = some (.int .i64 q.c) := by rw [hq6]; exact c4); (have d5 : w6.cell? ⟨w.heap.size, 5, none⟩ = some (.int .i64 q.d) := by rw [hq6]; exact c5); clear hq6)
        | (go_at_call 31; (with_reducible refine (HCT.out _ HB6.out).mono ?_); rintro e w7 ⟨rfl, hb7⟩; (have HB7 := Lib.hid (HB6.out.trans (hb7.mono HB6.out.size))); clear hb7))
      go_ret
      exact ⟨rfl, HB0.out.trans (HB7.out.mono hzz)⟩
set_option maxRecDepth 100000 in
set_option maxHeartbeats 4000000 in
theorem asked_match5 (w : World) (gd : Nat) (b : List UInt8) (a : Option Addr) (cap : Nat) (vp : Nat → Option Addr) (hT : TreeM w gd b a cap vp) (L : List Qd) (B : Blt b L) (al : Option Addr) (cl : Nat) (hs : SlQ w al L.length cl L) (N : Int) (hN : -9223372036854775808 ≤ N ∧ N ≤ 9223372036854775807) (q : Qd) (M : Int) (hM : -9223372036854775808 ≤ M ∧ M ≤ 9223372036854775807) :
    Calls Try.prog 18 #[.pointer (some ⟨gd, 0, none⟩), .slice al L.length cl, .agg #[.int .i64 5, .int .i64 N, .int .i64 q.a, .int .i64 q.b, .int .i64 q.c, .int .i64 q.d, .int .i64 M]] w fun e w' => e = .returned (.bool true) ∧ Below w.heap.size w w' := by
  obtain ⟨Mn, hMn⟩ : ∃ Mn : Nat, Mn = M.toNat := ⟨_, rfl⟩
  have hmx : max (0 : Int) M = (Mn : Nat) := by omega
  have hMn2 : Mn ≤ 9223372036854775807 := by omega
  obtain ⟨n, hn⟩ : ∃ n, n = L.length := ⟨_, rfl⟩
  have hn20 : n ≤ 1048576 := by rw [hn]; exact B.right.len
  have hcap := hs.le
  have hN3 : tN b 3 = n := by rw [hn]; have := B.n 3 (by omega); rw [posL_three B.right _ (Nat.le_refl _)] at this; exact this
  have hB0 : Below w.heap.size w (w.alloc (.cells #[.int .i64 5, .int .i64 N, .int .i64 q.a, .int .i64 q.b, .int .i64 q.c, .int .i64 q.d, .int .i64 M] 49)) := (Below.refl _ _).alloc (Nat.le_refl _) _
  have hg0 := heap_alloc_new w (.cells #[.int .i64 5, .int .i64 N, .int .i64 q.a, .int .i64 q.b, .int .i64 q.c, .int .i64 q.d, .int .i64 M] 49)
  have hz0 : w.heap.size < (w.alloc (.cells #[.int .i64 5, .int .i64 N, .int .i64 q.a, .int .i64 q.b, .int .i64 q.c, .int .i64 q.d, .int .i64 M] 49)).heap.size := by simp
  rw [← hn] at hs hcap ⊢
  have HT := Lib.hid hT
  have HS := Lib.hid hs
  have HN := Lib.hid hn
  have HN3 := Lib.hid hN3
  have HMN := Lib.hid hMn
  have HBL := Lib.hid B
  clear hT hs hn hN3 hMn B
  go_enter Try.func18, Try.ntmps18
  go_upto_region 1 with fail
  generalize w.alloc (.cells #[.int .i64 5, .int .i64 N, .int .i64 q.a, .int .i64 q.b, .int .i64 q.c, .int .i64 q.d, .int .i64 M] 49) = w0 at hB0 hg0 hz0 ⊢
  have a0 := cell_of_row w0 w.heap.size 0 _ _ _ hg0
  have a1 := cell_of_row w0 w.heap.size 1 _ _ _ hg0
  have a2 := cell_of_row w0 w.heap.size 2 _ _ _ hg0
  have a3 := cell_of_row w0 w.heap.size 3 _ _ _ hg0
  have a4 := cell_of_row w0 w.heap.size 4 _ _ _ hg0
  have a5 := cell_of_row w0 w.heap.size 5 _ _ _ hg0
  have a6 := cell_of_row w0 w.heap.size 6 _ _ _ hg0
  simp only [List.getElem?_toArray, List.getElem?_cons_zero, List.getElem?_cons_succ] at a0 a1 a2 a3 a4 a5 a6
  have HB0 := Lib.hid hB0
  have HG0 := Lib.hid hg0
  have HT0 := Lib.hid (HT.out.below hB0)
  have HS0 := Lib.hid (HS.out.keep hB0)
  have hzz := hB0.size
  clear hB0 hg0
  obtain ⟨i0, hi, hz0', hz1, hz2⟩ := info_parts Try.infoSeen
  have HI := Lib.hid hi
  have HZ0 := Lib.hid hz0'
  have HZ1 := Lib.hid hz1
  have HZ2 := Lib.hid hz2
  have SZ := Lib.hid Try.sizeIds
  clear hi hz0' hz1 hz2
  have hqr : w0.rangeAt w.heap.size 2 (qcs q) := fun j v hv => by
    have hj : j < 4 := by have := (List.getElem?_eq_some_iff.1 hv).1; simpa [qcs] using this
    rcases (by omega : j = 0 ∨ j = 1 ∨ j = 2 ∨ j = 3) with rfl | rfl | rfl | rfl
    · obtain rfl : Value.int .i64 q.a = v := by simpa [qcs] using hv
      exact a2
    · obtain rfl : Value.int .i64 q.b = v := by simpa [qcs] using hv
      exact a3
    · obtain rfl : Value.int .i64 q.c = v := by simpa [qcs] using hv
      exact a4
    · obtain rfl : Value.int .i64 q.d = v := by simpa [qcs] using hv
      exact a5
  have HQ0 := Lib.hid hqr
  have HA6 := Lib.hid a6
  clear hqr
  obtain ⟨wl, hwl⟩ : ∃ wl, wl = w0 := ⟨_, rfl⟩
  have HWL := Lib.hid hwl
  clear hwl
  go_wp2_with fail
  go_loopw [18, 19, 8] (fun nv iv v wr => ∃ (i : Nat) (v' : Value), nv = .int .i64 ((agS L q i).length : Nat) ∧ iv = .int .i64 (i : Nat) ∧ v = v' ∧ i ≤ n ∧ wr.ownsRow wl.heap.size 69 5 v' (((agS L q i).take Mn).length) (sqCs (((agS L q i).take Mn).map (qW L))) ∧ Below wl.heap.size wl wr) (fun _ iv _ _ => n - (intOf iv).toNat)
  case atStart => exact ⟨0, _, rfl, rfl, rfl, Nat.zero_le _, by rw [show agS L q 0 = [] from rfl, List.take_nil]; exact World.ownsRow_nil _ _ _ _, by rw [HWL.out]; exact Below.refl _ _⟩
  case round =>
    rename World => wr
    obtain ⟨i, v, rfl, rfl, rfl, hi1, hrow, hbr⟩ := hrel
    have hzr := hbr.size
    have HBR := Lib.hid hbr
    have HBR0 := Lib.hid (show Below w0.heap.size w0 wr by rw [← HWL.out]; exact hbr)
    have hzr0 := HBR0.out.size
    obtain ⟨av, cv, hv⟩ := ownsRow_slice hrow
    obtain ⟨m, hm⟩ : ∃ m, m = ((agS L q i).take Mn).length := ⟨_, rfl⟩
    obtain ⟨cn, hcn⟩ : ∃ cn, cn = (agS L q i).length := ⟨_, rfl⟩
    have hcni : cn ≤ i := by rw [hcn]; exact agS_len L q i
    have hmcn : m ≤ Mn ∧ m ≤ cn ∧ (m = Mn ∨ m = cn) := by have h0 : m = min Mn cn := (by rw [hm, List.length_take, ← hcn]); omega
    rw [← hm] at hv hrow
    rw [← hcn]
    subst hv
    have HROW := Lib.hid hrow
    have HM := Lib.hid hm
    have HCN := Lib.hid hcn
    have hmn : m ≤ 1048576 := by omega
    have HQR := Lib.hid (range_keep HQ0.out HBR0.out)
    clear hbr hrow hm hcn
    by_cases hin : i < n
    · have e1 : decide ((i : Int) < (n : Int)) = true := decide_eq_true (by omega)
      obtain ⟨bq, oq, hab, hcq⟩ := (HS0.out.keep HBR0.out).cell i hin
      subst hab
      obtain ⟨x, hx⟩ : ∃ x, x = qAt L i := ⟨_, rfl⟩
      have HC := Lib.hid (show wr.rangeAt bq (oq + i * 4) (qcs x) by rw [hx]; exact hcq)
      obtain ⟨bb, hbb⟩ : ∃ bb, bb = agK q x 4 := ⟨_, rfl⟩
      have HBB2 := Lib.hid hbb
      have hsucc := agS_succ L q i
      rw [← hx, ← hbb] at hsucc
      have HSC := Lib.hid hsucc
      have hsn := sq_snoc HBL.out.right ((agS L q i).take Mn) (t := i) (by rw [← HN.out]; exact hin)
      rw [← hx] at hsn
      have HSN := Lib.hid hsn
      clear hcq hx hbb hsucc hsn
      go_upto_region 28 with fail
      refine wp_region_quiet_all (fun w' => Below wr.heap.size wr w') (by kernel_rfl) (by kernel_rfl) (below_drewN (Below.refl _ _) 1) ?_
      refine WQ.h ?_
      refine wq_valD 144 (.pointer (some ⟨w.heap.size, 2, none⟩)) rfl rfl (fun w' h => by simp [go_sem]) ?_
      simp only [List.setIfInBounds_toArray, List.set_cons_succ, List.set_cons_zero]
      refine wq_midD 145 rfl rfl 24 (.tmp 144) rfl w.heap.size (2) (by simp [go_sem]) (qcs q) _ (fun w' h => range_keep HQR.out h) Try.underlying24 rfl SZ.out ?_
      simp only [List.setIfInBounds_toArray, List.set_cons_succ, List.set_cons_zero]
      refine wq_valD 146 (.slice (some ⟨bq, oq, none⟩) n cl) rfl rfl (fun w' h => by simp [go_sem]) ?_
      simp only [List.setIfInBounds_toArray, List.set_cons_succ, List.set_cons_zero]
      refine wq_valD 147 (.int .i64 (i : Nat)) rfl rfl (fun w' h => by simp [go_sem]) ?_
      simp only [List.setIfInBounds_toArray, List.set_cons_succ, List.set_cons_zero]
      refine wq_valD 148 (.pointer (some ⟨bq, oq + i * 4, none⟩)) rfl rfl (fun w' h => by simp [go_sem, hin]) ?_
      simp only [List.setIfInBounds_toArray, List.set_cons_succ, List.set_cons_zero]
      refine wq_midD 149 rfl rfl 24 (.tmp 148) rfl bq (oq + i * 4) (by simp [go_sem]) (qcs x) _ (fun w' h => range_keep HC.out h) Try.underlying24 rfl SZ.out ?_
      simp only [List.setIfInBounds_toArray, List.set_cons_succ, List.set_cons_zero]
      refine wq_callD 150 (.bool bb) 28 #[.agg (qcs q).toArray, .agg (qcs x).toArray] rfl rfl (fun w' => by simp [go_sem, qv, qcs]) (fun w' h => by rw [HBB2.out]; exact (agrees_calls w' q x).mono fun e w2 ⟨h1, h2⟩ => ⟨h1, h.trans (h2.mono h.size)⟩) ?_
      simp only [List.setIfInBounds_toArray, List.set_cons_succ, List.set_cons_zero]
      refine wq_valD 20 (.bool bb) rfl rfl (fun w' h => by simp [go_sem]) ?_
      simp only [List.setIfInBounds_toArray, List.set_cons_succ, List.set_cons_zero]
      refine wq_nilD ?_
      intro w2 hb2
      have hz2 := hb2.size
      have HB2 := Lib.hid (HBR.out.trans (hb2.mono hzr))
      have HRW2 := Lib.hid (row_below HROW.out hb2)
      have HC2 := Lib.hid (range_keep HC.out hb2)
      clear hb2
      cases bb with
      | false =>
        have hsc := HSC.out
        rw [if_neg (by simp), List.append_nil] at hsc
        have HSC2 := Lib.hid hsc
        clear hsc
        go_wp2_with fail
        refine ⟨⟨i + 1, _, ?_, by go_num, rfl, by omega, by rw [HSC2.out, ← HM.out]; exact HRW2.out, HB2.out⟩, by simp [intOf]; omega⟩
        rw [HSC2.out, ← HCN.out]
      | true =>
        have hsc := HSC.out
        rw [if_pos rfl] at hsc
        have HSC2 := Lib.hid hsc
        clear hsc
        have hcn1 : (cn : Int) + 1 = ((cn + 1 : Nat) : Int) := by omega
        have HC1 := Lib.hid hcn1
        clear hcn1
        by_cases hmM : m < Mn
        · have e2 : decide ((m : Int) < (Mn : Int)) = true := decide_eq_true (by omega)
          have htk : (agS L q (i + 1)).take Mn = (agS L q i).take Mn ++ [i] := by
            rw [HSC2.out, List.take_of_length_le (by rw [List.length_append, ← HCN.out]; simp; omega), List.take_of_length_le (by rw [← HCN.out]; omega)]
          have HTK := Lib.hid htk
          have hcq := HC2.out
          have y0 : w2.cell? ⟨bq, oq + i * 4, none⟩ = some (.int .i64 x.a) := qcs_at hcq 0 (by omega)
          have y1 : w2.cell? ⟨bq, oq + i * 4 + 1, none⟩ = some (.int .i64 x.b) := qcs_at hcq 1 (by omega)
          have y2 : w2.cell? ⟨bq, oq + i * 4 + 2, none⟩ = some (.int .i64 x.c) := qcs_at hcq 2 (by omega)
          have y3 : w2.cell? ⟨bq, oq + i * 4 + 3, none⟩ = some (.int .i64 x.d) := qcs_at hcq 3 (by omega)
          clear htk hcq
          go_wp2_with (at_builtin; (refine wpList_append_own _ rfl _ _ 63 rfl wl.heap.size 69 i0 (.agg #[.int .i64 0, .int .i64 0, .int .i64 0, .int .i64 0, .int .i64 0]) 5 40 Try.underlying63 HI.out HZ0.out HZ1.out HZ2.out rfl (by decide) _ _ _ rfl (HRW2.out.alloc _) ⟨w2.heap.size, 0, none⟩ 1 1 [.int .i64 (i : Nat), .int .i64 x.a, .int .i64 x.b, .int .i64 x.c, .int .i64 x.d] rfl rfl (cells_new _ _ _) (by simp [Value.oneCell']) (by unfold maxLen; omega) (by omega) (by simp; omega) ?_; intro v' w5 hown' hgrow _; (have HR5 := Lib.hid hown'); (have HB5 := Lib.hid (row_grown HRW2.out (by omega) hgrow)); clear hown' hgrow))
          refine ⟨⟨i + 1, v', ?_, by go_num, rfl, by omega, by rw [HTK.out, HSN.out, List.length_append, ← HM.out]; exact HR5.out, HB2.out.trans (HB5.out.mono (Nat.le_refl _))⟩, by simp [intOf]; omega⟩
          rw [HSC2.out, List.length_append, ← HCN.out]; first | rfl | go_num
        · have e2 : decide ((m : Int) < (Mn : Int)) = false := decide_eq_false (by omega)
          have htk : (agS L q (i + 1)).take Mn = (agS L q i).take Mn := by
            rw [HSC2.out, List.take_append_of_le_length (by rw [← HCN.out]; omega)]
          have HTK := Lib.hid htk
          clear htk
          go_wp2_with fail
          refine ⟨⟨i + 1, _, ?_, by go_num, rfl, by omega, by rw [HTK.out, ← HM.out]; exact HRW2.out, HB2.out⟩, by simp [intOf]; omega⟩
          rw [HSC2.out, List.length_append, ← HCN.out]; first | rfl | go_num
    · have e1 : decide ((i : Int) < (n : Int)) = false := decide_eq_false (by omega)
      have hin2 : i = n := by omega
      have hgs := take_sq HBL.out.right (ts := agS L q n) (fun t ht => by
        unfold agS at ht
        have := seg_mem.1 (List.mem_filter.1 ht).1; have := HN.out; omega) (by have := HBL.out.match q; rw [← HN.out] at this; exact this) Mn
      have hT2 := HT0.out.below HBR0.out
      have hw := tmatched_calls wr gd b a cap vp hT2 q Mn hMn2 _ rfl
      rw [hgs.1, hgs.2] at hw
      obtain ⟨W, hW⟩ : ∃ W, W = ((agS L q n).take Mn).map (qW L) := ⟨_, rfl⟩
      rw [← hW] at hw
      have hWl : W.length ≤ 1048576 := by rw [hW, List.length_map, ← hin2, ← HM.out]; exact hmn
      have hw2 : Calls Try.prog 29 #[.pointer (some ⟨gd, 0, none⟩), .agg #[.int .i64 q.a, .int .i64 q.b, .int .i64 q.c, .int .i64 q.d], .int .i64 (Mn : Nat)] wr _ := hw
      have hrw : wr.ownsRow wl.heap.size 69 5 (.slice av m cv) W.length (sqCs W) := by rw [hW, List.length_map, ← hin2, ← HM.out]; exact HROW.out
      have HRW := Lib.hid hrw
      have HW := Lib.hid hw2
      have hct := fun X (hX : Below w0.heap.size w0 X) => tcount_calls X gd b a cap vp (HT0.out.below hX) q
      simp only [HBL.out.count q, ← HN.out, ← hin2, ← HCN.out] at hct
      have HCT := Lib.hid (show ∀ X, Below w0.heap.size w0 X → Calls Try.prog 31 #[.pointer (some ⟨gd, 0, none⟩), .agg #[.int .i64 q.a, .int .i64 q.b, .int .i64 q.c, .int .i64 q.d]] X fun e w' => e = .returned (.int .i64 (cn : Nat)) ∧ Below X.heap.size X w' from hct)
      have he : ((cn : Int) == (cn : Int)) = true := by simp
      have b2 := (HBR0.out.cell (p := ⟨w.heap.size, 2, none⟩) hz0).trans a2
      have b3 := (HBR0.out.cell (p := ⟨w.heap.size, 3, none⟩) hz0).trans a3
      have b4 := (HBR0.out.cell (p := ⟨w.heap.size, 4, none⟩) hz0).trans a4
      have b5 := (HBR0.out.cell (p := ⟨w.heap.size, 5, none⟩) hz0).trans a5
      clear hgs hw hw2 hW hct hrw hT2 hin2
      go_upto_region 34 with (go_at_call 29; (with_reducible refine HW.out.mono ?_); rintro e w5 ⟨vg, rfl, hgr, hb5⟩; (have HGR := Lib.hid hgr); (have HB5 := Lib.hid hb5); clear hgr hb5)
      have same := sameSeen_calls w5 _ _ _ _ W (by omega) HGR.out (row_below HRW.out HB5.out)
      have HSM := Lib.hid same
      have hb05 := HBR0.out.trans (HB5.out.mono hzr0)
      have HB05 := Lib.hid hb05
      have c2 := (hb05.cell (p := ⟨w.heap.size, 2, none⟩) hz0).trans a2
      have c3 := (hb05.cell (p := ⟨w.heap.size, 3, none⟩) hz0).trans a3
      have c4 := (hb05.cell (p := ⟨w.heap.size, 4, none⟩) hz0).trans a4
      have c5 := (hb05.cell (p := ⟨w.heap.size, 5, none⟩) hz0).trans a5
      clear same hb05 b2 b3 b4 b5
      go_wp2_with (first
        | (go_at_call 30; (with_reducible refine HSM.out.mono ?_); rintro e w6 ⟨rfl, q6, hq6⟩; (have HB6 := Lib.hid (show Below w0.heap.size w0 w6 by rw [hq6]; exact below_drewN HB05.out q6)); (have d2 : w6.cell? ⟨w.heap.size, 2, none⟩ = some (.int .i64 q.a) := by rw [hq6]; exact c2); (have d3 : w6.cell? ⟨w.heap.size, 3, none⟩ = some (.int .i64 q.b) := by rw [hq6]; exact c3); (have d4 : w6.cell? ⟨w.heap.size, 4, none⟩ = some (.int .i64 q.c) := by rw [hq6]; exact c4); (have d5 : w6.cell? ⟨w.heap.size, 5, none⟩ = some (.int .i64 q.d) := by rw [hq6]; exact c5); clear hq6)
        | (go_at_call 31; (with_reducible refine (HCT.out _ HB6.out).mono ?_); rintro e w7 ⟨rfl, hb7⟩; (have HB7 := Lib.hid (HB6.out.trans (hb7.mono HB6.out.size))); clear hb7))
      go_ret
      exact ⟨rfl, HB0.out.trans (HB7.out.mono hzz)⟩
end Go.Proofs.Ytgajpekolamjbaa
/- TreeAnswers: the arrays of the statement's own, the trees that they hold. -/
namespace Go.Proofs.Ytgajpekolamjbaa
open Go.RowKit Go.Tk
/-- No cell of a row is a byte. -/
def NoU8 (x : Array Value) : Prop := ∀ (o : Nat) (k : Int), x[o]? ≠ some (.int .u8 k)
theorem NoU8.set {x : Array Value} (h : NoU8 x) (i : Nat) {v : Value} (hv : ∀ k, v ≠ .int .u8 k) : NoU8 (x.setIfInBounds i v) := by
  intro o k e
  rw [Array.getElem?_setIfInBounds] at e
  split at e
  · split at e
    · exact hv k (Option.some.inj e)
    · cases e
  · exact h o k e
theorem noU8_two {u v : Value} (hu : ∀ k, u ≠ .int .u8 k) (hv : ∀ k, v ≠ .int .u8 k) : NoU8 #[u, v] := by
  intro o k e
  match o, e with
  | 0, e => exact hu k (Option.some.inj e)
  | 1, e => exact hv k (Option.some.inj e)
  | o + 2, e => simp at e
/-- The five arrays of the statement's own. -/
structure AR (w0 W : World) (b : Nat) (x9 x10 x11 x12 x13 : Array Value) : Prop where
  r9 : W.heap[b]? = some (.cells x9 38 (0, 0))
  r10 : W.heap[b + 1]? = some (.cells x10 40 (0, 0))
  r11 : W.heap[b + 2]? = some (.cells x11 40 (0, 0))
  r12 : W.heap[b + 3]? = some (.cells x12 41 (0, 0))
  r13 : W.heap[b + 4]? = some (.cells x13 41 (0, 0))
  n10 : NoU8 x10
  n11 : NoU8 x11
  n12 : NoU8 x12
  n13 : NoU8 x13
  bl : Below w0.heap.size w0 W
  bb : w0.heap.size ≤ b
theorem AR.below {w0 W W' b x9 x10 x11 x12 x13} (h : AR w0 W b x9 x10 x11 x12 x13) (hb : Below W.heap.size W W') : AR w0 W' b x9 x10 x11 x12 x13 :=
  ⟨(hb.block _ (lt_of_block h.r9)).trans h.r9, (hb.block _ (lt_of_block h.r10)).trans h.r10, (hb.block _ (lt_of_block h.r11)).trans h.r11, (hb.block _ (lt_of_block h.r12)).trans h.r12, (hb.block _ (lt_of_block h.r13)).trans h.r13, h.n10, h.n11, h.n12, h.n13, h.bl.trans (hb.mono h.bl.size), h.bb⟩
theorem AR.s13 {w0 W b x9 x10 x11 x12 x13} (h : AR w0 W b x9 x10 x11 x12 x13) (i : Nat) {v : Value} (hv : ∀ k, v ≠ .int .u8 k) : AR w0 (W.setCell ⟨b + 4, i, none⟩ v) b x9 x10 x11 x12 (x13.setIfInBounds i v) :=
  ⟨(heap_setCell_other _ _ _ _ (by simp)).trans h.r9, (heap_setCell_other _ _ _ _ (by simp)).trans h.r10, (heap_setCell_other _ _ _ _ (by simp)).trans h.r11, (heap_setCell_other _ _ _ _ (by simp)).trans h.r12, heap_setCell_same W _ i _ _ _ h.r13, h.n10, h.n11, h.n12, h.n13.set i hv, h.bl.setCell (p := ⟨b + 4, i, none⟩) (by have := h.bb; simp only; omega) v, h.bb⟩
theorem AR.s12 {w0 W b x9 x10 x11 x12 x13} (h : AR w0 W b x9 x10 x11 x12 x13) (i : Nat) {v : Value} (hv : ∀ k, v ≠ .int .u8 k) : AR w0 (W.setCell ⟨b + 3, i, none⟩ v) b x9 x10 x11 (x12.setIfInBounds i v) x13 :=
  ⟨(heap_setCell_other _ _ _ _ (by simp)).trans h.r9, (heap_setCell_other _ _ _ _ (by simp)).trans h.r10, (heap_setCell_other _ _ _ _ (by simp)).trans h.r11, heap_setCell_same W _ i _ _ _ h.r12, (heap_setCell_other _ _ _ _ (by simp)).trans h.r13, h.n10, h.n11, h.n12.set i hv, h.n13, h.bl.setCell (p := ⟨b + 3, i, none⟩) (by have := h.bb; simp only; omega) v, h.bb⟩
theorem AR.s10 {w0 W b x9 x10 x11 x12 x13} (h : AR w0 W b x9 x10 x11 x12 x13) (i : Nat) {v : Value} (hv : ∀ k, v ≠ .int .u8 k) : AR w0 (W.setCell ⟨b + 1, i, none⟩ v) b x9 (x10.setIfInBounds i v) x11 x12 x13 :=
  ⟨(heap_setCell_other _ _ _ _ (by simp)).trans h.r9, heap_setCell_same W _ i _ _ _ h.r10, (heap_setCell_other _ _ _ _ (by simp)).trans h.r11, (heap_setCell_other _ _ _ _ (by simp)).trans h.r12, (heap_setCell_other _ _ _ _ (by simp)).trans h.r13, h.n10.set i hv, h.n11, h.n12, h.n13, h.bl.setCell (p := ⟨b + 1, i, none⟩) (by have := h.bb; simp only; omega) v, h.bb⟩
theorem AR.s11 {w0 W b x9 x10 x11 x12 x13} (h : AR w0 W b x9 x10 x11 x12 x13) (i : Nat) {v : Value} (hv : ∀ k, v ≠ .int .u8 k) : AR w0 (W.setCell ⟨b + 2, i, none⟩ v) b x9 x10 (x11.setIfInBounds i v) x12 x13 :=
  ⟨(heap_setCell_other _ _ _ _ (by simp)).trans h.r9, (heap_setCell_other _ _ _ _ (by simp)).trans h.r10, heap_setCell_same W _ i _ _ _ h.r11, (heap_setCell_other _ _ _ _ (by simp)).trans h.r12, (heap_setCell_other _ _ _ _ (by simp)).trans h.r13, h.n10, h.n11.set i hv, h.n12, h.n13, h.bl.setCell (p := ⟨b + 2, i, none⟩) (by have := h.bb; simp only; omega) v, h.bb⟩
theorem sl_keptT {S : Nat → Prop} {w w' : World} {a : Option Addr} {n c : Nat} {zs : List Int} (h : SlI .u8 w a n c zs) (hk : Kept S w w') (hS : ∀ j, S j → ∀ (o : Nat) (k : Int), w.cell? ⟨j, o, none⟩ ≠ some (.int .u8 k)) : SlI .u8 w' a n c zs :=
  ⟨h.len, h.le, h.max, fun i hi => by
    obtain ⟨b, o, e, hc⟩ := h.cell i hi
    exact ⟨b, o, e, hk.cell hc (fun hs => hS b hs _ _ hc)⟩⟩
/-- One of the arrays that are turned. -/
def ArT (w : World) (j : Nat) : Prop := ∃ x T, w.heap[j]? = some (.cells x T (0, 0)) ∧ NoU8 x ∧ (T = 40 ∨ T = 41)
theorem TreeM.keptT {S : Nat → Prop} {w w' : World} {gd : Nat} {b : List UInt8} {a : Option Addr} {cap : Nat} {vp : Nat → Option Addr} (h : TreeM w gd b a cap vp) (hk : Kept S w w') (hS : ∀ j, S j → ArT w j) : TreeM w' gd b a cap vp := by
  have hu : ∀ j, S j → ∀ (o : Nat) (k : Int), w.cell? ⟨j, o, none⟩ ≠ some (.int .u8 k) := fun j hj o k => by
    obtain ⟨x, T, hx, hn, _⟩ := hS j hj
    rw [cell_of_row w j o _ _ _ hx]; exact hn o k
  have hne : ∀ {j : Nat} {x : Array Value} {T : TypeId}, w.heap[j]? = some (.cells x T (0, 0)) → T ≠ 40 → T ≠ 41 → ¬ S j := fun hj h1 h2 hs => by
    obtain ⟨y, U, hy, _, hU⟩ := hS _ hs
    rw [hj] at hy
    injection hy with hy
    injection hy with _ hT _
    rcases hU with rfl | rfl
    · exact h1 hT
    · exact h2 hT
  refine ⟨(hk.block gd h.row.lt (hne h.row (by decide) (by decide))).trans h.row, sl_keptT h.sl hk hu, h.nil, fun k hk4 => ⟨fun hv => ?_, (h.vec k hk4).2⟩, h.ok⟩
  obtain ⟨gv, h1, h2⟩ := (h.vec k hk4).1 hv
  exact ⟨gv, h1, (hk.block gv (lt_of_block h2.row) (hne h2.row (by decide) (by decide))).trans h2.row, sl_keptT h2.sl hk hu, h2.fit, h2.mn, h2.nN⟩
/-- One tree, opened and seen. -/
structure VD (b : Nat) (W : World) (bs : List UInt8) (go gv gs : Nat) (aw : Option Addr) (cw : Nat) : Prop where
  vo : ∃ a cap vp, TreeM W gv bs a cap vp
  vs : ∃ a cap vp, TreeM W gs bs a cap vp
  ro : RowI .u8 5 W go (nums bs ++ [171, 172])
  sw : SlI .u8 W aw bs.length cw (nums bs)
  o1 : b + 5 ≤ go
theorem row_keptS {S : Nat → Prop} {k : IntKind} {e : TypeId} {w w' : World} {g : Nat} {zs : List Int} (h : RowI k e w g zs) (hk : Kept S w w') (hne : ¬ S g) : RowI k e w' g zs := (hk.block g h.lt hne).trans h
theorem VD.kept {S : Nat → Prop} {b W W' bs go gv gs aw cw} (h : VD b W bs go gv gs aw cw) (hk : Kept S W W') (hS : ∀ j, S j → j < b + 5 ∧ ArT W j) : VD b W' bs go gv gs aw cw := by
  obtain ⟨a, cap, vp, ho⟩ := h.vo
  obtain ⟨a', cap', vp', hs⟩ := h.vs
  have hu : ∀ j, S j → ∀ (o : Nat) (k : Int), W.cell? ⟨j, o, none⟩ ≠ some (.int .u8 k) := fun j hj o k => by
    obtain ⟨x, T, hx, hn, _⟩ := (hS j hj).2
    rw [cell_of_row W j o _ _ _ hx]; exact hn o k
  exact ⟨⟨a, cap, vp, ho.keptT hk (fun j hj => (hS j hj).2)⟩, ⟨a', cap', vp', hs.keptT hk (fun j hj => (hS j hj).2)⟩, row_keptS h.ro hk (fun e => by have := (hS _ e).1; have := h.o1; omega), sl_keptT h.sw hk hu, h.o1⟩
theorem VD.below {b W W' bs go gv gs aw cw} (h : VD b W bs go gv gs aw cw) (hb : Below W.heap.size W W') : VD b W' bs go gv gs aw cw := h.kept (Kept.none_of_below hb) (fun _ e => False.elim e)
theorem kept_setA {w : World} (g i : Nat) (v : Value) : Kept (fun j => j = g) w (w.setCell ⟨g, i, none⟩ v) := Kept.setCell (Kept.refl (fun j => j = g) w) (p := ⟨g, i, none⟩) (.inl rfl) v
theorem row_noU8 {W : World} {g : Nat} {x : Array Value} {t : TypeId} (h : W.heap[g]? = some (.cells x t (0, 0))) (hx : NoU8 x) (o : Nat) (k : Int) : W.cell? ⟨g, o, none⟩ ≠ some (.int .u8 k) := by
  rw [cell_of_row W g o _ _ _ h]; exact hx o k
theorem VD.set1 {w0 b W x9 x10 x11 x12 x13 bs go gv gs aw cw} (h : VD b W bs go gv gs aw cw) (ha : AR w0 W b x9 x10 x11 x12 x13) (i : Nat) (v : Value) : VD b (W.setCell ⟨b + 1, i, none⟩ v) bs go gv gs aw cw :=
  h.kept (kept_setA (b + 1) i v) (fun j e => ⟨by omega, by rw [e]; exact ⟨_, _, ha.r10, ha.n10, .inl rfl⟩⟩)
theorem VD.set2 {w0 b W x9 x10 x11 x12 x13 bs go gv gs aw cw} (h : VD b W bs go gv gs aw cw) (ha : AR w0 W b x9 x10 x11 x12 x13) (i : Nat) (v : Value) : VD b (W.setCell ⟨b + 2, i, none⟩ v) bs go gv gs aw cw :=
  h.kept (kept_setA (b + 2) i v) (fun j e => ⟨by omega, by rw [e]; exact ⟨_, _, ha.r11, ha.n11, .inl rfl⟩⟩)
theorem VD.set3 {w0 b W x9 x10 x11 x12 x13 bs go gv gs aw cw} (h : VD b W bs go gv gs aw cw) (ha : AR w0 W b x9 x10 x11 x12 x13) (i : Nat) (v : Value) : VD b (W.setCell ⟨b + 3, i, none⟩ v) bs go gv gs aw cw :=
  h.kept (kept_setA (b + 3) i v) (fun j e => ⟨by omega, by rw [e]; exact ⟨_, _, ha.r12, ha.n12, .inr rfl⟩⟩)
theorem VD.set4 {w0 b W x9 x10 x11 x12 x13 bs go gv gs aw cw} (h : VD b W bs go gv gs aw cw) (ha : AR w0 W b x9 x10 x11 x12 x13) (i : Nat) (v : Value) : VD b (W.setCell ⟨b + 4, i, none⟩ v) bs go gv gs aw cw :=
  h.kept (kept_setA (b + 4) i v) (fun j e => ⟨by omega, by rw [e]; exact ⟨_, _, ha.r13, ha.n13, .inr rfl⟩⟩)
theorem fz_row {W : World} {g i : Nat} {x : Array Value} {t : TypeId} (h : W.heap[g]? = some (.cells x t (0, 0))) : W.frozen? ⟨g, i, none⟩ = false := frozen_of_row W g i _ _ h
theorem own_slA {w : World} {g n : Nat} {z : List Int} (h : RowI .u8 5 w g (z ++ [171, 172])) (hn : z.length = n) (hb : n ≤ 140737488351232) : SlI .u8 w (some ⟨g, 0, none⟩) n (n + 2) z := by
  have := h.sl n (n + 2) (by simp; omega) (by simp; omega) (by omega)
  have e : (z ++ [171, 172]).take n = z := by subst hn; simp
  rw [e] at this
  exact this
theorem bytes_of {zs : List Int} (h : ∀ x ∈ zs, 0 ≤ x ∧ x < 256) : ∃ b : List UInt8, nums b = zs := by
  refine ⟨zs.map fun x => UInt8.ofNat x.toNat, ?_⟩
  unfold nums
  rw [List.map_map]
  conv => rhs; rw [← List.map_id zs]
  apply List.map_congr_left
  intro x hx
  have := h x hx
  simp only [Function.comp, id]
  rw [UInt8.toNat_ofNat']
  omega
theorem vz_u8 (x : Int) : ∀ y ∈ vz x, 0 ≤ y ∧ y < 256 := by
  have key : ∀ f (n : Int), ∀ y ∈ vzN f n, 0 ≤ y ∧ y < 256 := by
    intro f
    induction f with
    | zero => intro n y hy; simp [vzN] at hy; omega
    | succ f ih =>
      intro n y hy
      simp only [vzN] at hy
      split at hy
      · rcases List.mem_cons.1 hy with rfl | hy
        · have : ∀ k : Fin 256, 0 ≤ bits .or .u8 (k.val : Int) 128 ∧ bits .or .u8 (k.val : Int) 128 < 256 := by decide +kernel
          have hk := this ⟨(n % 256).toNat, by omega⟩
          have e : (((n % 256).toNat : Nat) : Int) = n % 256 := by omega
          simpa [e] using hk
        · exact ih _ _ hy
      · simp at hy; omega
  exact key 9 x
theorem nums_rg (l : List UInt8) : ∀ x ∈ nums l, 0 ≤ x ∧ x < 256 := by
  intro x hx
  obtain ⟨y, _, rfl⟩ := List.mem_map.1 hx
  have := UInt8.toNat_lt y
  omega
theorem secB_rg {L : List Qd} (R : Right L) (k : Nat) : (∀ x ∈ secB L k, 0 ≤ x ∧ x < 256) ∧ (secB L k).length ≤ 16000000 := by
  obtain ⟨W, f⟩ := lvF R k
  have hs := pos_small R k
  have hle := f.le
  have hp : posL L k L.length * W ≤ 1048576 * 23 := Nat.mul_le_mul hs hle
  refine ⟨fun x hx => ?_, ?_⟩
  · unfold secB at hx
    dsimp only at hx
    rw [f.w] at hx
    rcases List.mem_cons.1 hx with rfl | hx
    · omega
    · rcases List.mem_append.1 hx with hx | hx
      · rw [← f.w, f.pack] at hx
        obtain ⟨i, hi, rfl⟩ := List.mem_iff_getElem.1 hx
        have := packTo_u8 (levN L k L.length) W (((levN L k L.length).length * W + 7) / 8) (levN L k L.length).length i hi
        simpa [hi] using this
      · split at hx
        · simp at hx
        · exact nums_rg _ _ hx
  · have hl := f.len
    have hw := wh_len (packB (lastB L k)) (levN L k L.length).length
    have hv := vc_len L k
    have hc := cnt_le (packB (lastB L k)) (levN L k L.length).length
    unfold secB
    dsimp only
    simp only [List.length_cons, List.length_append]
    rw [hl]
    unfold vcB at hv
    have hn : (levN L k L.length).length ≤ 1048576 := hs
    split
    · simp only [List.length_nil]; omega
    · rw [nums_len, hw, hv]
      have : (posL L k L.length + 7) / 8 ≤ 131073 := by omega
      omega
theorem treeB_rg {L : List Qd} (R : Right L) : (∀ x ∈ treeB L, 0 ≤ x ∧ x < 256) ∧ (treeB L).length ≤ 67108864 := by
  have h0 := secB_rg R 0
  have h1 := secB_rg R 1
  have h2 := secB_rg R 2
  have h3 := secB_rg R 3
  refine ⟨fun x hx => ?_, ?_⟩
  · unfold treeB headB at hx
    simp only [List.mem_append] at hx
    rcases hx with (((((((hx | hx) | hx) | hx) | hx) | hx) | hx) | hx)
    · exact vz_u8 _ _ hx
    · exact vz_u8 _ _ hx
    · exact vz_u8 _ _ hx
    · exact vz_u8 _ _ hx
    · exact h0.1 x hx
    · exact h1.1 x hx
    · exact h2.1 x hx
    · exact h3.1 x hx
  · unfold treeB headB
    simp only [List.length_append]
    have a0 := (vz_len (((levN L 0 L.length).length : Nat) : Int)).2
    have a1 := (vz_len (((levN L 1 L.length).length : Nat) : Int)).2
    have a2 := (vz_len (((levN L 2 L.length).length : Nat) : Int)).2
    have a3 := (vz_len (((levN L 3 L.length).length : Nat) : Int)).2
    have := h0.2; have := h1.2; have := h2.2; have := h3.2
    omega
theorem build_good {L : List Qd} (R : Right L) {most : Int} (h : 67108864 ≤ most) : buildTE L most = 0 ∧ buildTO L most = treeB L := by
  have hl := (treeB_rg R).2
  have he : buildTE L most = 0 := by
    unfold buildTE
    rw [right_chk R, if_neg (by omega), if_neg (by omega)]
  exact ⟨he, by unfold buildTO; rw [if_pos he]⟩
/-- Open and View of what Build made. -/
theorem open_good (W : World) (a : Option Addr) (c : Nat) (R : List Qd) (hG : Right R) (bs : List UInt8) (hb : nums bs = treeB R) (hs : SlI .u8 W a bs.length c (nums bs)) (hn : a = none → c = 0) (ha : ∀ x, a = some x → x.block < W.heap.size) :
    Calls Try.prog 16 #[.slice a bs.length c] W fun e w' => ∃ gv, e = .returned (.tuple #[.pointer (some ⟨gv, 0, none⟩), .nilIface]) ∧ W.heap.size ≤ gv ∧ (∃ a cap vp, TreeM w' gv bs a cap vp) ∧ Below W.heap.size W w' := by
  have hl : bs.length ≤ 140737488355328 := by rw [← nums_len bs, hb]; have := (treeB_rg hG).2; omega
  refine (topen_calls W bs a c hs hn ha hl).mono ?_
  rintro e w' ⟨xs, ys, hU, hbl, h⟩
  rw [op_of hG hb hU] at h
  rcases h with ⟨h0, _⟩ | ⟨_, gd, vp, h1, h2, h3⟩
  · exact absurd rfl h0
  · exact ⟨gd, h2, h1, ⟨a, c, vp, h3⟩, hbl⟩
theorem view_good (W : World) (a : Option Addr) (c : Nat) (R : List Qd) (hG : Right R) (bs : List UInt8) (hb : nums bs = treeB R) (hs : SlI .u8 W a bs.length c (nums bs)) (hn : a = none → c = 0) (ha : ∀ x, a = some x → x.block < W.heap.size) :
    Calls Try.prog 17 #[.slice a bs.length c] W fun e w' => ∃ gv, e = .returned (.tuple #[.pointer (some ⟨gv, 0, none⟩), .nilIface]) ∧ W.heap.size ≤ gv ∧ (∃ a cap vp, TreeM w' gv bs a cap vp) ∧ Below W.heap.size W w' := by
  have hl : bs.length ≤ 140737488355328 := by rw [← nums_len bs, hb]; have := (treeB_rg hG).2; omega
  refine (tview_calls W a c bs hs hn ha hl).mono ?_
  rintro e w' ⟨hbl, h⟩
  rw [vw_of hG hb] at h
  rcases h with ⟨h0, _⟩ | ⟨_, gd, vp, h1, h2, h3⟩
  · exact absurd rfl h0
  · exact ⟨gd, h2, h1, ⟨a, c, vp, h3⟩, hbl⟩
/-- The document's Build of quads that rise. -/
theorem rbuild_good (W : World) (a : Option Addr) (c : Nat) (R : List Qd) (hG : Right R) (h : SlQ W a R.length c R) (bs : List UInt8) (hb : nums bs = treeB R) :
    Calls Try.prog 10 #[.slice a R.length c, .int .i64 1099511627776] W fun e w' => ∃ aw cw, e = .returned (.tuple #[.slice aw bs.length cw, .int .i64 0]) ∧ SlI .u8 w' aw bs.length cw (nums bs) ∧ (∀ x, aw = some x → W.heap.size ≤ x.block) ∧ Below W.heap.size W w' := by
  have := rbuildT_calls W a R.length c R h 1099511627776 ⟨by decide, by decide⟩
  rw [(build_good hG (by decide)).1, (build_good hG (by decide)).2] at this
  refine this.mono ?_
  rintro e w' ⟨v, rfl, how, hbw⟩
  obtain ⟨aw, cw, rfl, hs, hl⟩ := how.sl
  rw [← hb, nums_len] at hs ⊢
  exact ⟨aw, cw, rfl, hs, fun x hx => (hl x hx).1, hbw⟩
/-- Whatever is asked. -/
theorem asked_all (w : World) (gd : Nat) (b : List UInt8) (a : Option Addr) (cap : Nat) (vp : Nat → Option Addr) (hT : TreeM w gd b a cap vp) (L : List Qd) (B : Blt b L) (al : Option Addr) (cl : Nat) (hs : SlQ w al L.length cl L) (k N : Int) (hN : -9223372036854775808 ≤ N ∧ N ≤ 9223372036854775807) (q : Qd) (M : Int) (hM : -9223372036854775808 ≤ M ∧ M ≤ 9223372036854775807) :
    Calls Try.prog 18 #[.pointer (some ⟨gd, 0, none⟩), .slice al L.length cl, .agg #[.int .i64 k, .int .i64 N, .int .i64 q.a, .int .i64 q.b, .int .i64 q.c, .int .i64 q.d, .int .i64 M]] w fun e w' => e = .returned (.bool true) ∧ Below w.heap.size w w' := by
  by_cases h0 : k = 0
  · subst h0; exact asked_len w gd b a cap vp hT L B al cl hs N hN q M hM
  by_cases h1 : k = 1
  · subst h1; exact asked_get w gd b a cap vp hT L B al cl hs N hN q M hM
  by_cases h2 : k = 2
  · subst h2; exact asked_find w gd b a cap vp hT L B al cl hs N hN q M hM
  by_cases h3 : k = 3
  · subst h3; exact asked_each w gd b a cap vp hT L B al cl hs N hN q M hM
  by_cases h4 : k = 4
  · subst h4; exact asked_match4 w gd b a cap vp hT L B al cl hs N hN q M hM
  by_cases h5 : k = 5
  · subst h5; exact asked_match5 w gd b a cap vp hT L B al cl hs N hN q M hM
  exact asked_other w gd b a cap vp hT L B al cl hs k (by simp [h0]) (by simp [h1]) (by simp [h2]) (by simp [h3]) (by simp [h4]) (by simp [h5]) N hN q M hM
end Go.Proofs.Ytgajpekolamjbaa
/- works: the chapter's example; made. -/
namespace Go.Proofs.Ytgajpekolamjbaa
open Go Go.RowKit Go.Tk
def exL : List Qd := [⟨0, 1, 2, 3⟩, ⟨0, 1, 2, 5⟩]
theorem ex_right : Right exL := chk_right (by decide +kernel)
theorem ex_len : (treeB exL).length ≤ 1000 := by decide +kernel
theorem ex_build : buildTE exL 1000 = 0 ∧ buildTO exL 1000 = treeB exL := by
  have he : buildTE exL 1000 = 0 := by
    unfold buildTE
    rw [right_chk ex_right, if_neg (by omega), if_neg (by have := ex_len; omega)]
  exact ⟨he, by unfold buildTO; rw [if_pos he]⟩
theorem ex_find : fndN exL ⟨0, 1, 2, 4⟩ = 1 := by decide +kernel
theorem ex_ag1 : agS exL ⟨-1, -1, 2, -1⟩ 2 = [0, 1] := by decide +kernel
theorem ex_ag2 : (agS exL ⟨0, 1, 2, 5⟩ 2).length = 1 := by decide +kernel
theorem ex_ag3 : (agS exL ⟨1, -1, -1, -1⟩ 2).length = 0 := by decide +kernel
theorem num18w_calls (w : World) (x : Int) : Calls Try.prog 11 #[.int .i64 x] w fun e w' => e = .returned (.int .i64 x) ∧ w = w' := by
  go_enter Try.func11, Try.ntmps11
  go_wp2
  go_ret
  exact ⟨rfl, rfl⟩
/-- Build of the example. -/
theorem ex_tree (W : World) (a : Option Addr) (c : Nat) (h : SlQ W a 2 c exL) :
    Calls Try.prog 9 #[.slice a 2 c, .int .i64 1000] W fun e w' => ∃ bs av, nums bs = treeB exL ∧ e = .returned (.tuple #[.slice av bs.length bs.length, .int .i64 0]) ∧ SlI .u8 w' av bs.length bs.length (nums bs) ∧ (av = none → bs.length = 0) ∧ (∀ x, av = some x → x.block < w'.heap.size) ∧ Below W.heap.size W w' := by
  obtain ⟨bs, hbs⟩ := bytes_of (treeB_rg ex_right).1
  have := tbuild_calls W a 2 c exL h 1000 ⟨by decide, by decide⟩
  rw [ex_build.1, ex_build.2, ← hbs] at this
  refine this.mono ?_
  rintro e w' ⟨v, rfl, how, hb⟩
  obtain ⟨av, rfl, hs, hn⟩ := OwC.slN8 how
  rw [nums_len] at hs hn ⊢
  refine ⟨bs, av, hbs, rfl, hs, hn, fun x hx => ?_, hb⟩
  obtain ⟨a', c', e1, h2⟩ := how
  have e2 : av = a' := by injection e1
  subst e2
  subst hx
  exact (h2.lt x.block rfl).2
theorem ex_sl (w : World) : SlQ (w.alloc (.cells #[.int .i64 0, .int .i64 1, .int .i64 2, .int .i64 3, .int .i64 0, .int .i64 1, .int .i64 2, .int .i64 5] 24)) (some ⟨w.heap.size, 0, none⟩) 2 2 exL := by
  have hg := heap_alloc_new w (.cells #[.int .i64 0, .int .i64 1, .int .i64 2, .int .i64 3, .int .i64 0, .int .i64 1, .int .i64 2, .int .i64 5] 24)
  refine ⟨rfl, Nat.le_refl _, by decide, fun i hi => ⟨w.heap.size, 0, rfl, fun j v hv => ?_⟩⟩
  have hj : j < 4 := by have := (List.getElem?_eq_some_iff.1 hv).1; simpa [qcs] using this
  rw [cell_of_row _ _ _ _ _ _ hg]
  rcases (by omega : i = 0 ∨ i = 1) with rfl | rfl <;> rcases (by omega : j = 0 ∨ j = 1 ∨ j = 2 ∨ j = 3) with rfl | rfl | rfl | rfl <;> exact hv
theorem ex_get (W : World) (gd : Nat) (b : List UInt8) (a : Option Addr) (cap : Nat) (vp : Nat → Option Addr) (hT : TreeM W gd b a cap vp) (B : Blt b exL) :
    Calls Try.prog 23 #[.pointer (some ⟨gd, 0, none⟩), .int .i64 1] W fun e w' => e = .returned (.tuple #[.agg #[.int .i64 0, .int .i64 1, .int .i64 2, .int .i64 5], .bool true]) ∧ Below W.heap.size W w' := by
  obtain ⟨g, hg1, hg2⟩ := B.get (t := 1) (by decide)
  have h := tget_calls W gd b a cap vp hT 1 ⟨by decide, by decide⟩
  rw [show getT b 1 = some g from hg1] at h
  refine h.mono ?_
  rintro e w' ⟨hb, rfl⟩
  have g0 : ((g 0 : Nat) : Int) = 0 := hg2 0 (by omega)
  have g1 : ((g 1 : Nat) : Int) = 1 := hg2 1 (by omega)
  have g2 : ((g 2 : Nat) : Int) = 2 := hg2 2 (by omega)
  have g3 : ((g 3 : Nat) : Int) = 5 := hg2 3 (by omega)
  refine ⟨?_, hb⟩
  show Ending.returned (.tuple #[.agg #[.int .i64 (g 0 : Nat), .int .i64 (g 1 : Nat), .int .i64 (g 2 : Nat), .int .i64 (g 3 : Nat)], .bool true]) = _
  rw [g0, g1, g2, g3]
theorem ex_fnd (W : World) (gd : Nat) (b : List UInt8) (a : Option Addr) (cap : Nat) (vp : Nat → Option Addr) (hT : TreeM W gd b a cap vp) (B : Blt b exL) :
    Calls Try.prog 24 #[.pointer (some ⟨gd, 0, none⟩), .agg #[.int .i64 0, .int .i64 1, .int .i64 2, .int .i64 4]] W fun e w' => e = .returned (.tuple #[.int .i64 1, .bool false]) ∧ Below W.heap.size W w' := by
  have h := tfind_calls hT ⟨0, 1, 2, 4⟩
  obtain ⟨h1, h2⟩ := fnd_eq ex_right (B.find ⟨0, 1, 2, 4⟩)
  rw [h1, h2, ex_find] at h
  exact h
theorem ex_count (W : World) (gd : Nat) (b : List UInt8) (a : Option Addr) (cap : Nat) (vp : Nat → Option Addr) (hT : TreeM W gd b a cap vp) (B : Blt b exL) (q : Qd) (n : Nat) (hn : (agS exL q exL.length).length = n) :
    Calls Try.prog 31 #[.pointer (some ⟨gd, 0, none⟩), .agg #[.int .i64 q.a, .int .i64 q.b, .int .i64 q.c, .int .i64 q.d]] W fun e w' => e = .returned (.int .i64 (n : Nat)) ∧ Below W.heap.size W w' := by
  have h := tcount_calls W gd b a cap vp hT q
  rw [B.count q, hn] at h
  exact h
theorem ex_matched (W : World) (gd : Nat) (b : List UInt8) (a : Option Addr) (cap : Nat) (vp : Nat → Option Addr) (hT : TreeM W gd b a cap vp) (B : Blt b exL) :
    Calls Try.prog 29 #[.pointer (some ⟨gd, 0, none⟩), .agg #[.int .i64 (-1), .int .i64 (-1), .int .i64 2, .int .i64 (-1)], .int .i64 9] W fun e w' => ∃ a c, e = .returned (.tuple #[.slice a 2 c, .bool true]) ∧ Below W.heap.size W w' := by
  have h := tmatched_calls W gd b a cap vp hT ⟨-1, -1, 2, -1⟩ 9 (by decide) _ rfl
  have hl : ((matchT b ⟨-1, -1, 2, -1⟩).take 9).length = 2 := by
    have := congrArg List.length (B.match ⟨-1, -1, 2, -1⟩)
    rw [List.length_map, List.length_map] at this
    rw [List.length_take, this, show (((seg 0 exL.length).filter fun t => agK ⟨-1, -1, 2, -1⟩ (qAt exL t) 4)).length = 2 by decide +kernel]
    rfl
  refine h.mono ?_
  rintro e w' ⟨v, rfl, hr, hb⟩
  rw [hl] at hr
  rcases hr with ⟨_, ⟨e1, e2⟩ | ⟨g, cap', cur, rfl, e2, e3, e4⟩⟩
  · cases e2
  · exact ⟨_, _, rfl, hb⟩
set_option maxRecDepth 100000 in
set_option maxHeartbeats 4000000 in
theorem works_calls (w : World) : Calls Try.prog 20 #[] w fun e w' => e = .returned (.bool true) ∧ Below w.heap.size w w' := by
  have HBD := Lib.hid (ex_tree (w.alloc (.cells #[.int .i64 0, .int .i64 1, .int .i64 2, .int .i64 3, .int .i64 0, .int .i64 1, .int .i64 2, .int .i64 5] 24)) (some ⟨w.heap.size, 0, none⟩) 2 (ex_sl w))
  have HB0 := Lib.hid (show Below w.heap.size w (w.alloc (.cells #[.int .i64 0, .int .i64 1, .int .i64 2, .int .i64 3, .int .i64 0, .int .i64 1, .int .i64 2, .int .i64 5] 24)) from (Below.refl _ _).alloc (Nat.le_refl _) _)
  go_enter Try.func20, Try.ntmps20
  go_upto_region 2 with (go_at_call 9; (with_reducible refine HBD.out.mono ?_); rintro e w2 ⟨bs, av, hbs, rfl, hs, hn, hx, hb⟩; (have HB2 := Lib.hid (HB0.out.trans (hb.mono HB0.out.size))); (have HBL := Lib.hid (blt_of ex_right hbs)); (have HOP := Lib.hid (open_good w2 av bs.length exL ex_right bs hbs hs hn hx)); clear hbs hs hn hx hb)
  clear HBD HB0
  go_upto_region 3 with (go_at_call 16; (with_reducible refine HOP.out.mono ?_); rintro e w3 ⟨gv, rfl, hgv, ⟨ta, tc, vp, hT⟩, hb⟩; (have HT := Lib.hid hT); (have HB3 := Lib.hid (HB2.out.trans (hb.mono HB2.out.size))); clear hT hb)
  clear HOP HB2
  have HLN := Lib.hid (tlen_calls HT.out)
  have HGT := Lib.hid (ex_get w3 gv bs ta tc vp HT.out HBL.out)
  have HFN := Lib.hid (fun W (hb : Below w3.heap.size w3 W) => ex_fnd W gv bs ta tc vp (HT.out.below hb) HBL.out)
  have HMT := Lib.hid (fun W (hb : Below w3.heap.size w3 W) => ex_matched W gv bs ta tc vp (HT.out.below hb) HBL.out)
  have HC1 := Lib.hid (fun W (hb : Below w3.heap.size w3 W) => ex_count W gv bs ta tc vp (HT.out.below hb) HBL.out ⟨0, 1, 2, 5⟩ 1 ex_ag2)
  have HC2 := Lib.hid (fun W (hb : Below w3.heap.size w3 W) => ex_count W gv bs ta tc vp (HT.out.below hb) HBL.out ⟨1, -1, -1, -1⟩ 0 ex_ag3)
  have e3 : tN bs 3 = 2 := by have := HBL.out.n 3 (by omega); rw [posL_three ex_right _ (Nat.le_refl _)] at this; exact this
  rw [e3] at HLN
  clear e3
  go_wp2_with (first
    | (go_at_call 11; (with_reducible refine (num18w_calls _ _).mono ?_); rintro e x ⟨rfl, rfl⟩)
    | (go_at_call 22; (with_reducible refine HLN.out.mono ?_); rintro e x ⟨rfl, rfl⟩)
    | (go_at_call 23; (with_reducible refine HGT.out.mono ?_); rintro e w4 ⟨rfl, hb⟩; (have HB4 := Lib.hid hb); clear hb)
    | (go_at_call 24; (with_reducible refine (HFN.out (w4.alloc (.cells #[.int .i64 0, .int .i64 1, .int .i64 2, .int .i64 5] 24)) (HB4.out.alloc HB4.out.size _)).mono ?_); rintro e w5 ⟨rfl, hb⟩; (have HR5 := Lib.hid ((hb.block w4.heap.size (by simp)).trans (heap_alloc_new w4 (.cells #[.int .i64 0, .int .i64 1, .int .i64 2, .int .i64 5] 24)))); (have HB5 := Lib.hid ((HB4.out.alloc HB4.out.size (.cells #[.int .i64 0, .int .i64 1, .int .i64 2, .int .i64 5] 24)).trans (hb.mono (by have := HB4.out.size; simp; omega)))); clear hb)
    | (go_at_call 29; (with_reducible refine (HMT.out w5 HB5.out).mono ?_); rintro e w6 ⟨ma, mc, rfl, hb⟩; (have r6 := (hb.block w4.heap.size (by have := HR5.out; exact (Array.getElem?_eq_some_iff.1 this).1)).trans HR5.out); (have EQ : (Op.equalIn 10000 24 (.agg #[.int .i64 0, .int .i64 1, .int .i64 2, .int .i64 5]) (.agg #[.int .i64 0, .int .i64 1, .int .i64 2, .int .i64 5])).run Try.prog w6 = .ok true w6 := (eqQ w6 ⟨0, 1, 2, 5⟩ ⟨0, 1, 2, 5⟩ 9998).trans (by rw [decide_eq_true rfl])); (have k0 : w6.cell? ⟨w4.heap.size, 0, none⟩ = some (.int .i64 0) := cell_of_row w6 w4.heap.size 0 _ _ _ r6); (have k1 : w6.cell? ⟨w4.heap.size, 1, none⟩ = some (.int .i64 1) := cell_of_row w6 w4.heap.size 1 _ _ _ r6); (have k2 : w6.cell? ⟨w4.heap.size, 2, none⟩ = some (.int .i64 2) := cell_of_row w6 w4.heap.size 2 _ _ _ r6); (have k3 : w6.cell? ⟨w4.heap.size, 3, none⟩ = some (.int .i64 5) := cell_of_row w6 w4.heap.size 3 _ _ _ r6); (have HB6 := Lib.hid (HB5.out.trans (hb.mono HB5.out.size))); clear hb r6)
    | (go_at_call 31; (with_reducible refine (HC1.out w6 HB6.out).mono ?_); rintro e w7 ⟨rfl, hb⟩; (have HB7 := Lib.hid (HB6.out.trans (hb.mono HB6.out.size))); clear hb)
    | (go_at_call 31; (with_reducible refine (HC2.out w7 HB7.out).mono ?_); rintro e w8 ⟨rfl, hb⟩; (have HB8 := Lib.hid (HB7.out.trans (hb.mono HB7.out.size))); clear hb))
  go_ret
  exact ⟨rfl, HB3.out.trans (HB8.out.mono HB3.out.size)⟩
/-- Build of quads that rise, by the program. -/
theorem build_tree (W : World) (a : Option Addr) (c : Nat) (R : List Qd) (hG : Right R) (h : SlQ W a R.length c R) (bs : List UInt8) (hb : nums bs = treeB R) :
    Calls Try.prog 9 #[.slice a R.length c, .int .i64 1099511627776] W fun e w' => ∃ av, e = .returned (.tuple #[.slice av bs.length bs.length, .int .i64 0]) ∧ SlI .u8 w' av bs.length bs.length (nums bs) ∧ (av = none → bs.length = 0) ∧ (∀ x, av = some x → x.block < w'.heap.size) ∧ Below W.heap.size W w' := by
  have := tbuild_calls W a R.length c R h 1099511627776 ⟨by decide, by decide⟩
  rw [(build_good hG (by decide)).1, (build_good hG (by decide)).2, ← hb] at this
  refine this.mono ?_
  rintro e w' ⟨v, rfl, how, hbw⟩
  obtain ⟨av, rfl, hs, hn⟩ := OwC.slN8 how
  rw [nums_len] at hs hn ⊢
  refine ⟨av, rfl, hs, hn, fun x hx => ?_, hbw⟩
  obtain ⟨a', c', e1, h2⟩ := how
  have e2 : av = a' := by injection e1
  subst e2
  subst hx
  exact (h2.lt x.block rfl).2
set_option maxRecDepth 100000 in
theorem made_calls (W : World) (a : Option Addr) (c : Nat) (R : List Qd) (hG : Right R) (h : SlQ W a R.length c R) (bs : List UInt8) (hb : nums bs = treeB R) :
    Calls Try.prog 21 #[.slice a R.length c] W fun e w' => ∃ gv av, e = .returned (.tuple #[.pointer (some ⟨gv, 0, none⟩), .slice av bs.length bs.length]) ∧ (∃ ta tc vp, TreeM w' gv bs ta tc vp) ∧ SlI .u8 w' av bs.length bs.length (nums bs) ∧ (av = none → bs.length = 0) ∧ (∀ x, av = some x → x.block < w'.heap.size) ∧ Below W.heap.size W w' := by
  have HBD := Lib.hid (build_tree W a c R hG h bs hb)
  have HG := Lib.hid hG
  have HB := Lib.hid hb
  clear hG h hb
  go_enter Try.func21, Try.ntmps21
  go_wp2_with (first
    | (go_at_call 9; (with_reducible refine HBD.out.mono ?_); rintro e w2 ⟨av, rfl, hs, hn, hx, hb2⟩; (have HOP := Lib.hid (open_good w2 av bs.length R HG.out bs HB.out hs hn hx)); (have HS := Lib.hid hs); (have HN := Lib.hid hn); (have HX := Lib.hid hx); (have HB2 := Lib.hid hb2); clear hs hn hx hb2)
    | (go_at_call 16; (with_reducible refine HOP.out.mono ?_); rintro e w3 ⟨gv, rfl, hgv, hT, hb3⟩; (have HT := Lib.hid hT); (have HB3 := Lib.hid hb3); clear hT hb3)
    | (go_at_call 11; (with_reducible refine (num18w_calls _ _).mono ?_); rintro e x ⟨rfl, rfl⟩))
  go_ret2
  exact ⟨gv, av, rfl, HT.out, HS.out.keep HB3.out, HN.out, fun x hx => by have := HX.out x hx; have := HB3.out.size; omega, HB2.out.trans (HB3.out.mono HB2.out.size)⟩
end Go.Proofs.Ytgajpekolamjbaa
/- Plain: what agrees with a pattern whose given numbers stand in front lies without gaps. -/
namespace Go.Proofs.Ytgajpekolamjbaa
open Go Go.RowKit Go.Tk
theorem conv_seg (f : Nat → Bool) (hc : ∀ i j k, i ≤ j → j ≤ k → f i = true → f k = true → f j = true) : ∀ N : Nat, ∃ s c, (seg 0 N).filter f = seg s (s + c) ∧ s + c ≤ N
  | 0 => ⟨0, 0, by simp [seg], by omega⟩
  | N + 1 => by
    obtain ⟨s, c, h, hl⟩ := conv_seg f hc N
    rw [seg_app (show 0 ≤ N by omega) (show N ≤ N + 1 by omega), List.filter_append, seg_one, h]
    by_cases hf : f N = true
    · rw [show [N].filter f = [N] by simp [hf]]
      by_cases h0 : c = 0
      · subst h0
        refine ⟨N, 1, ?_, by omega⟩
        rw [seg_nil (by omega), seg_one]; rfl
      · have hs : f s = true := by
          have : s ∈ (seg 0 N).filter f := by rw [h, seg_mem]; omega
          exact (List.mem_filter.1 this).2
        have he : s + c = N := by
          refine Decidable.byContradiction fun hne => ?_
          have g := hc s (s + c) N (by omega) (by omega) hs hf
          have : s + c ∈ (seg 0 N).filter f := List.mem_filter.2 ⟨seg_mem.2 ⟨by omega, by omega⟩, g⟩
          rw [h, seg_mem] at this; omega
        refine ⟨s, c + 1, ?_, by omega⟩
        rw [seg_app (show s ≤ s + c by omega) (show s + c ≤ s + (c + 1) by omega), ← Nat.add_assoc, seg_one, he]
    · rw [show [N].filter f = [] by simp [hf], List.append_nil]
      exact ⟨s, c, rfl, by omega⟩
theorem seg_getD {A D i : Nat} (h : i < D - A) : (seg A D).getD i 0 = A + i := by
  unfold seg
  rw [List.getD_eq_getElem?_getD, List.getElem?_range' h]; simp
/-- Do the numbers below 0 stand behind all others? -/
def frQ (p : Qd) : Bool := !((decide (p.a < 0) && decide (0 ≤ p.b)) || (decide (p.b < 0) && decide (0 ≤ p.c)) || (decide (p.c < 0) && decide (0 ≤ p.d)))
theorem ag_iff (p q : Qd) : agK p q 4 = true ↔ (p.a < 0 ∨ p.a = q.a) ∧ (p.b < 0 ∨ p.b = q.b) ∧ (p.c < 0 ∨ p.c = q.c) ∧ (p.d < 0 ∨ p.d = q.d) := by
  have key : ∀ x y : Int, (!(decide (0 ≤ x) && (x != y))) = true ↔ (x < 0 ∨ x = y) := by
    intro x y
    by_cases h : x < 0
    · simp [h, show ¬ 0 ≤ x by omega]
    · by_cases e : x = y <;> simp [h, e, show 0 ≤ x by omega]
  rw [agK_iff]
  constructor
  · intro h
    exact ⟨(key _ _).1 (h 0 (by omega)), (key _ _).1 (h 1 (by omega)), (key _ _).1 (h 2 (by omega)), (key _ _).1 (h 3 (by omega))⟩
  · rintro ⟨h0, h1, h2, h3⟩ i hi
    rcases (show i = 0 ∨ i = 1 ∨ i = 2 ∨ i = 3 by omega) with rfl | rfl | rfl | rfl
    · exact (key _ _).2 h0
    · exact (key _ _).2 h1
    · exact (key _ _).2 h2
    · exact (key _ _).2 h3
theorem fr_iff (p : Qd) : frQ p = true ↔ (0 ≤ p.a ∨ p.b < 0) ∧ (0 ≤ p.b ∨ p.c < 0) ∧ (0 ≤ p.c ∨ p.d < 0) := by
  unfold frQ
  by_cases h0 : p.a < 0 <;> by_cases h1 : p.b < 0 <;> by_cases h2 : p.c < 0 <;> by_cases h3 : p.d < 0 <;> simp [h0, h1, h2, h3] <;> omega
theorem ag_mid {p x y z : Qd} (hf : frQ p = true) (hx : agK p x 4 = true) (hz : agK p z 4 = true) (h1 : cmpQ x y < 0) (h2 : cmpQ y z < 0) : agK p y 4 = true := by
  rw [ag_iff] at *; rw [fr_iff] at hf; rw [cmp_neg] at h1 h2
  obtain ⟨a1, a2, a3, a4⟩ := hx
  obtain ⟨b1, b2, b3, b4⟩ := hz
  obtain ⟨f1, f2, f3⟩ := hf
  by_cases ha : p.a < 0
  · have : p.b < 0 := by omega
    have : p.c < 0 := by omega
    have : p.d < 0 := by omega
    exact ⟨.inl ‹_›, .inl ‹_›, .inl ‹_›, .inl ‹_›⟩
  have e1 : x.a = p.a := by omega
  have e2 : z.a = p.a := by omega
  have e3 : y.a = p.a := by omega
  by_cases hb : p.b < 0
  · have : p.c < 0 := by omega
    have : p.d < 0 := by omega
    exact ⟨.inr e3.symm, .inl ‹_›, .inl ‹_›, .inl ‹_›⟩
  have g1 : x.b = p.b := by omega
  have g2 : z.b = p.b := by omega
  have g3 : y.b = p.b := by omega
  by_cases hc : p.c < 0
  · have : p.d < 0 := by omega
    exact ⟨.inr e3.symm, .inr g3.symm, .inl ‹_›, .inl ‹_›⟩
  have k1 : x.c = p.c := by omega
  have k2 : z.c = p.c := by omega
  have k3 : y.c = p.c := by omega
  by_cases hd : p.d < 0
  · exact ⟨.inr e3.symm, .inr g3.symm, .inr k3.symm, .inl hd⟩
  exact ⟨.inr e3.symm, .inr g3.symm, .inr k3.symm, .inr (by omega)⟩
theorem agS_front {L : List Qd} (h : RisP L) {p : Qd} (hf : frQ p = true) : ∃ s c, agS L p L.length = seg s (s + c) ∧ s + c ≤ L.length := by
  obtain ⟨s, c, e, hl⟩ := conv_seg (fun t => decide (t < L.length) && agK p (qAt L t) 4) (fun i j k hij hjk hi hk => by
    simp only [Bool.and_eq_true, decide_eq_true_eq] at hi hk ⊢
    refine ⟨by omega, ?_⟩
    rcases Nat.lt_or_ge i j with h1 | h1
    · rcases Nat.lt_or_ge j k with h2 | h2
      · have g1 := rise_lt h (j - i - 1) i (by omega)
        have g2 := rise_lt h (k - j - 1) j (by omega)
        rw [show i + (j - i - 1) + 1 = j by omega] at g1
        rw [show j + (k - j - 1) + 1 = k by omega] at g2
        exact ag_mid hf hi.2 hk.2 g1 g2
      · rw [show j = k by omega]; exact hk.2
    · rw [show j = i by omega]; exact hi.2) L.length
  refine ⟨s, c, ?_, hl⟩
  rw [← e]; unfold agS
  refine List.filter_congr fun t ht => ?_
  rw [decide_eq_true (seg_mem.1 ht).2, Bool.true_and]
end Go.Proofs.Ytgajpekolamjbaa
/- Get and Find of a tree of quads that rise, as the document has them. -/
namespace Go.Proofs.Ytgajpekolamjbaa
open Go Go.RowKit Go.Tk
theorem get_at (W : World) (gd : Nat) (b : List UInt8) (a : Option Addr) (cap : Nat) (vp : Nat → Option Addr) (hT : TreeM W gd b a cap vp) (L : List Qd) (B : Blt b L) (t : Nat) (ht : t < L.length) :
    Calls Try.prog 23 #[.pointer (some ⟨gd, 0, none⟩), .int .i64 (t : Nat)] W fun e w' => e = .returned (.tuple #[.agg (qcs (qAt L t)).toArray, .bool true]) ∧ Below W.heap.size W w' := by
  have hl := B.right.len
  obtain ⟨g, hg1, hg2⟩ := B.get ht
  have h := tget_calls W gd b a cap vp hT (t : Nat) (by omega)
  rw [hg1] at h
  refine h.mono ?_
  rintro e w' ⟨hb, rfl⟩
  have g0 : ((g 0 : Nat) : Int) = (qAt L t).a := hg2 0 (by omega)
  have g1 : ((g 1 : Nat) : Int) = (qAt L t).b := hg2 1 (by omega)
  have g2 : ((g 2 : Nat) : Int) = (qAt L t).c := hg2 2 (by omega)
  have g3 : ((g 3 : Nat) : Int) = (qAt L t).d := hg2 3 (by omega)
  refine ⟨?_, hb⟩
  show Ending.returned (.tuple #[.agg #[.int .i64 (g 0 : Nat), .int .i64 (g 1 : Nat), .int .i64 (g 2 : Nat), .int .i64 (g 3 : Nat)], .bool true]) = _
  rw [g0, g1, g2, g3]
  rfl
theorem find_at (W : World) (gd : Nat) (b : List UInt8) (a : Option Addr) (cap : Nat) (vp : Nat → Option Addr) (hT : TreeM W gd b a cap vp) (L : List Qd) (B : Blt b L) (q : Qd) :
    Calls Try.prog 24 #[.pointer (some ⟨gd, 0, none⟩), .agg (qcs q).toArray] W fun e w' => e = .returned (.tuple #[.int .i64 (fndN L q : Nat), .bool (isN L q)]) ∧ Below W.heap.size W w' := by
  have h := tfind_calls hT q
  obtain ⟨h1, h2⟩ := fnd_eq B.right (B.find q)
  rw [h1, h2] at h
  exact h
theorem right_ris {L : List Qd} (R : Right L) : RisP L := ⟨fun i hi => R.ok i hi, R.rise⟩
end Go.Proofs.Ytgajpekolamjbaa
