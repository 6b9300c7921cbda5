/- RkT RkO RkG RkY, laid as one. -/
import Derived.Test.YtgajpekolamjbaaDoorRkV
import Derived.Deep.CutBlock
set_option linter.unusedVariables false
set_option linter.unusedSimpArgs false
/- Rank0, Bit, search, Select, Select0. -/
namespace Go.Tk
open Go Go.RowKit
def rank0V (bs : List UInt8) (n m : Nat) (i : Int) : Int := if i ≤ 0 then 0 else min i n - rankV bs n m i
theorem rank_le (bs : List UInt8) (n m : Nat) (hmn : m ≤ n) (i : Int) (h : 0 ≤ i) : (rankV bs n m i : Int) ≤ min i n := by
  unfold rankV
  split
  · omega
  split
  · omega
  · omega
theorem rank0_bd (bs : List UInt8) (n m : Nat) (hmn : m ≤ n) (i : Int) : 0 ≤ rank0V bs n m i ∧ rank0V bs n m i ≤ n := by
  unfold rank0V
  split
  · omega
  · have := rank_le bs n m hmn i (by omega); omega
/-- The search's answer. -/
def srchF (cf : Nat → Int) (k : Int) : Nat → Nat → Nat → Nat
  | 0, lo, _ => lo
  | f + 1, lo, hi => if lo < hi then (if k < cf ((lo + hi) / 2 + 1) then srchF cf k f lo ((lo + hi) / 2) else srchF cf k f ((lo + hi) / 2 + 1) hi) else lo
theorem srch_fuel (cf : Nat → Int) (k : Int) : ∀ (f g lo hi : Nat), hi - lo ≤ f → hi - lo ≤ g → srchF cf k f lo hi = srchF cf k g lo hi
  | 0, g, lo, hi, h, _ => by
    cases g with
    | zero => rfl
    | succ g => simp only [srchF]; rw [if_neg (by omega)]
  | f + 1, 0, lo, hi, _, h => by simp only [srchF]; rw [if_neg (by omega)]
  | f + 1, g + 1, lo, hi, h1, h2 => by
    simp only [srchF]
    split
    · split
      · exact srch_fuel cf k f g _ _ (by omega) (by omega)
      · exact srch_fuel cf k f g _ _ (by omega) (by omega)
    · rfl
theorem srch_bd (cf : Nat → Int) (k : Int) : ∀ (f lo hi : Nat), lo ≤ hi → lo ≤ srchF cf k f lo hi ∧ srchF cf k f lo hi ≤ hi
  | 0, lo, hi, h => ⟨Nat.le_refl _, h⟩
  | f + 1, lo, hi, h => by
    simp only [srchF]
    split
    · split
      · have := srch_bd cf k f lo ((lo + hi) / 2) (by omega); omega
      · have := srch_bd cf k f ((lo + hi) / 2 + 1) hi (by omega); omega
    · omega
/-- Where the counts grow, the first place behind which more than k are counted. -/
theorem srch_least (cf : Nat → Int) (k : Int) (hm : ∀ i j, i ≤ j → cf i ≤ cf j) : ∀ (f lo hi : Nat), hi - lo ≤ f → lo ≤ hi → k < cf (hi + 1) → (∀ j, j < lo → cf (j + 1) ≤ k) → k < cf (srchF cf k f lo hi + 1) ∧ ∀ j, j < srchF cf k f lo hi → cf (j + 1) ≤ k
  | 0, lo, hi, h, hl, hk, hb => by
    obtain rfl : lo = hi := by omega
    exact ⟨hk, hb⟩
  | f + 1, lo, hi, h, hl, hk, hb => by
    simp only [srchF]
    split
    · split
      · rename_i h2
        exact srch_least cf k hm f lo ((lo + hi) / 2) (by omega) (by omega) h2 hb
      · rename_i h2
        refine srch_least cf k hm f ((lo + hi) / 2 + 1) hi (by omega) (by omega) hk (fun j hj => ?_)
        have := hm (j + 1) ((lo + hi) / 2 + 1) (by omega)
        omega
    · obtain rfl : lo = hi := by omega
      exact ⟨hk, hb⟩
def selV (cf : Nat → Int) (n : Nat) (k : Int) (most : Int) : Int := if k < 0 ∨ most ≤ k then -1 else (srchF cf k n 0 (n - 1) : Nat)
end Go.Tk
namespace Go.Proofs.YtgajpekolamjbaaDoor
open Go.RowKit Go.Tk
set_option maxRecDepth 100000 in
set_option maxHeartbeats 1000000 in
theorem vbit_calls {w gv a c bs n m} (h : VecAt w gv a c bs n m) (i : Int) (hw : -9223372036854775808 ≤ i ∧ i ≤ 9223372036854775807) : Calls Tryd.prog 40 #[.pointer (some ⟨gv, 0, none⟩), .int .i64 i] w fun e w' => e = .returned (.bool (decide (0 ≤ i) && decide (i < n) && btB (datB bs) i.toNat)) ∧ ∃ q, w' = w.drewN q := by
  have k0 := h.k0
  have k1 := h.k1
  have k3 := h.k3
  by_cases h0 : 0 ≤ i
  · by_cases h1 : i < n
    · obtain ⟨j, rfl⟩ : ∃ j : Nat, i = j := ⟨i.toNat, by omega⟩
      have hfit := h.fit
      have hnN := h.nN
      have hix : 8 + j / 8 < bs.length := by rw [hfit]; unfold oE oM oS oG; omega
      have hbig : bs.length ≤ 100000000 := by have := h.mn; rw [hfit]; unfold oE oM oS oG; omega
      obtain ⟨b, o, rfl, hc⟩ := byte_cell h.sl (8 + j / 8) hix
      have hlen := h.sl.le
      have hdat : bs.getD (8 + j / 8) 0 = (datB bs).getD (j / 8) 0 := by unfold datB; rw [drop_getD]
      rw [hdat] at hc
      obtain ⟨y, hy⟩ : ∃ y : Nat, y = ((datB bs).getD (j / 8) 0).toNat := ⟨_, rfl⟩
      rw [← hy] at hc
      have hy2 : y ≤ 255 := by rw [hy]; have := UInt8.toNat_lt ((datB bs).getD (j / 8) 0); omega
      have e1 := bit_and ⟨y, by omega⟩ ⟨j % 8, by omega⟩
      have e2 := bit_mod ⟨y, by omega⟩ ⟨j % 8, by omega⟩
      simp only at e1 e2
      have hres : btB (datB bs) (j : Int).toNat = y.testBit (j % 8) := by
        rw [Int.toNat_natCast]; unfold btB; rw [hy]
      have e3 : decide ((0 : Int) ≤ (j : Nat)) = true := by simp
      have e4 : decide (((j : Nat) : Int) < n) = true := by simpa using h1
      rw [hres, e3, e4]
      generalize y.testBit (j % 8) = r at e1 e2
      simp only [Bool.and_true, Bool.true_and, Bool.and_self]
      clear hres hy h hdat hfit e3 e4
      go_enter Tryd.func40, Tryd.ntmps40
      go_wp2_with fail
      go_quiet (fail)
      go_wp2
      go_ret
      exact ⟨rfl, _, rfl⟩
    · have e4 : decide (i < n) = false := by simpa using h1
      rw [e4, Bool.and_false, Bool.false_and]
      clear h
      go_enter Tryd.func40, Tryd.ntmps40
      go_wp2_with fail
      go_quiet (fail)
      go_wp2
      go_ret
      exact ⟨rfl, _, rfl⟩
  · have e4 : decide (0 ≤ i) = false := by simpa using h0
    rw [e4, Bool.false_and, Bool.false_and]
    clear h
    go_enter Tryd.func40, Tryd.ntmps40
    go_wp2_with fail
    go_quiet (fail)
    go_wp2
    go_ret
    exact ⟨rfl, _, rfl⟩
end Go.Proofs.YtgajpekolamjbaaDoor
/- shape, View, Open of a vector's bytes. -/
namespace Go.Proofs.YtgajpekolamjbaaDoor
open Go.RowKit Go.Tk
def VC (a : Option Addr) (l c n m : Nat) (x3 x4 x5 x6 x7 : Int) : Array Value := #[.slice a l c, .int .i64 (n : Nat), .int .i64 (m : Nat), .int .i64 x3, .int .i64 x4, .int .i64 x5, .int .i64 x6, .int .i64 x7]
def VRow (w : World) (gv : Nat) (a : Option Addr) (l c n m : Nat) (x3 x4 x5 x6 x7 : Int) : Prop := w.heap[gv]? = some (.cells (VC a l c n m x3 x4 x5 x6 x7) 87 (0, 0))
theorem VRow.s3 {w : World} {gv : Nat} {a : Option Addr} {l c n m : Nat} {x3 x4 x5 x6 x7 : Int} (h : VRow w gv a l c n m x3 x4 x5 x6 x7) (v : Int) : VRow (w.setCell ⟨gv, 3, none⟩ (.int .i64 v)) gv a l c n m v x4 x5 x6 x7 := by unfold VRow; rw [heap_setCell_same w gv 3 _ _ _ h]; rfl
theorem VRow.s4 {w : World} {gv : Nat} {a : Option Addr} {l c n m : Nat} {x3 x4 x5 x6 x7 : Int} (h : VRow w gv a l c n m x3 x4 x5 x6 x7) (v : Int) : VRow (w.setCell ⟨gv, 4, none⟩ (.int .i64 v)) gv a l c n m x3 v x5 x6 x7 := by unfold VRow; rw [heap_setCell_same w gv 4 _ _ _ h]; rfl
theorem VRow.s5 {w : World} {gv : Nat} {a : Option Addr} {l c n m : Nat} {x3 x4 x5 x6 x7 : Int} (h : VRow w gv a l c n m x3 x4 x5 x6 x7) (v : Int) : VRow (w.setCell ⟨gv, 5, none⟩ (.int .i64 v)) gv a l c n m x3 x4 v x6 x7 := by unfold VRow; rw [heap_setCell_same w gv 5 _ _ _ h]; rfl
theorem VRow.s6 {w : World} {gv : Nat} {a : Option Addr} {l c n m : Nat} {x3 x4 x5 x6 x7 : Int} (h : VRow w gv a l c n m x3 x4 x5 x6 x7) (v : Int) : VRow (w.setCell ⟨gv, 6, none⟩ (.int .i64 v)) gv a l c n m x3 x4 x5 v x7 := by unfold VRow; rw [heap_setCell_same w gv 6 _ _ _ h]; rfl
theorem VRow.s7 {w : World} {gv : Nat} {a : Option Addr} {l c n m : Nat} {x3 x4 x5 x6 x7 : Int} (h : VRow w gv a l c n m x3 x4 x5 x6 x7) (v : Int) : VRow (w.setCell ⟨gv, 7, none⟩ (.int .i64 v)) gv a l c n m x3 x4 x5 x6 v := by unfold VRow; rw [heap_setCell_same w gv 7 _ _ _ h]; rfl
theorem cutV_o (n m : Nat) : cutV (n : Int) (m : Int) = .agg #[.int .i64 8, .int .i64 (oG n : Nat), .int .i64 (oS n : Nat), .int .i64 (oM n : Nat), .int .i64 (oE n m : Nat)] := by
  have e1 : (8 : Int) + ((n : Int) + 8 - 1) / 8 = (oG n : Nat) := by unfold oG; omega
  have e2 : (oG n : Int) + 4 * (((n : Int) + 2048 - 1) / 2048) = (oS n : Nat) := by unfold oS; omega
  have e3 : (oS n : Int) + 2 * (((n : Int) + 256 - 1) / 256) = (oM n : Nat) := by unfold oM; omega
  have e4 : (oM n : Int) + 4 * (((m : Nat) + 512 - 1 : Int) / 512) = (oE n m : Nat) := by unfold oE; omega
  unfold cutV
  rw [e1, e2, e3, e4]
set_option maxRecDepth 100000 in
set_option maxHeartbeats 2000000 in
theorem shape_go (w : World) (b o L c n m Gv Sv Mv Ev : Nat) (h8 : 8 ≤ L) (hlen : L ≤ c) (hmax : c ≤ 9223372036854775807) (hN : n ≤ 67108864) (hm : m ≤ n) (hE : Ev ≤ L)
    (hf0 : ∀ k, Calls Tryd.prog 47 #[.slice (some ⟨b, o, none⟩) L c] (w.drewN k) fun e w' => e = .returned (.int .i64 (n : Nat)) ∧ ∃ q, w' = (w.drewN k).drewN q)
    (hf4 : ∀ k, Calls Tryd.prog 47 #[.slice (some ⟨b, o + 4, none⟩) (L - 4) (c - 4)] (w.drewN k) fun e w' => e = .returned (.int .i64 (m : Nat)) ∧ ∃ q, w' = (w.drewN k).drewN q)
    (hcut : ∀ w, Calls Tryd.prog 27 #[.int .i64 (n : Nat), .int .i64 (m : Nat)] w fun e w' => e = .returned (.agg #[.int .i64 8, .int .i64 (Gv : Nat), .int .i64 (Sv : Nat), .int .i64 (Mv : Nat), .int .i64 (Ev : Nat)]) ∧ Below w.heap.size w w') :
    Calls Tryd.prog 28 #[.slice (some ⟨b, o, none⟩) L c] w fun e w' => ∃ gv, e = .returned (.tuple #[.pointer (some ⟨gv, 0, none⟩), .bool ((L : Int) == (Ev : Nat)), .nilIface]) ∧ w.heap.size ≤ gv ∧
      VRow w' gv (some ⟨b, o, none⟩) L c n m 8 (Gv : Nat) (Sv : Nat) (Mv : Nat) (Ev : Nat) ∧ Below w.heap.size w w' := by
  have H0 := Lib.hid hf0
  have H4 := Lib.hid hf4
  have HCUT := Lib.hid hcut
  clear hf0 hf4 hcut
  go_enter Tryd.func28, Tryd.ntmps28
  go_wp2_with fail
  refine wp_region_quiet_tail (fun w' => ∃ n, w' = World.drewN _ n) 6 (by kernel_rfl) (by kernel_rfl) ⟨1, rfl⟩ ?_
  simp only [List.take_succ_cons, List.take_zero, List.drop_succ_cons, List.drop_zero]
  repeat (go_big_quiet_step (first
    | (go_at_call 47; (with_reducible exact quiet_dr (H0.out _)))
    | (go_at_call 47; (with_reducible exact quiet_dr (H4.out _)))))
  refine wpQuiet_nil ?_
  rintro _ ⟨n1, rfl⟩
  go_upto_region 4 with fail
  have hv : VRow ((w.drewN n1).alloc (.cells (VC (some ⟨b, o, none⟩) L c n m 0 0 0 0 0) 87)) w.heap.size (some ⟨b, o, none⟩) L c n m 0 0 0 0 0 := heap_alloc_new (w.drewN n1) _
  have hb : Below w.heap.size w ((w.drewN n1).alloc (.cells (VC (some ⟨b, o, none⟩) L c n m 0 0 0 0 0) 87)) := (below_drewN (Below.refl _ _) _).alloc (Nat.le_refl _) _
  unfold VC at hv hb
  generalize (w.drewN n1).alloc (.cells #[.slice (some ⟨b, o, none⟩) L c, .int .i64 (n : Nat), .int .i64 (m : Nat), .int .i64 0, .int .i64 0, .int .i64 0, .int .i64 0, .int .i64 0] 87) = w2 at hv hb ⊢
  generalize hgv : w.heap.size = gv at hv
  have hgw : w.heap.size ≤ gv := Nat.le_of_eq hgv
  clear hgv
  have k1 : w2.cell? ⟨gv, 1, none⟩ = some (.int .i64 (n : Nat)) := cell_of_row w2 gv 1 _ _ _ hv
  have k2 : w2.cell? ⟨gv, 2, none⟩ = some (.int .i64 (m : Nat)) := cell_of_row w2 gv 2 _ _ _ hv
  have HV := Lib.hid hv
  have HB := Lib.hid hb
  clear hv hb H0 H4
  go_wp2_with fail
  go_quiet (fail)
  go_upto_region 8 with fail
  have hv2 := HV.out
  have hb2 := below_drewN HB.out nq
  have hv2 : VRow (w2.drewN nq) gv (some ⟨b, o, none⟩) L c n m 0 0 0 0 0 := HV.out
  clear k1 k2 HV HB
  generalize w2.drewN nq = w3 at hv2 hb2 ⊢
  have hlt := lt_of_block hv2
  refine wp_region_quiet_tail (fun w' => VRow w' gv (some ⟨b, o, none⟩) L c n m 0 0 0 0 0 ∧ Below w.heap.size w w') 12 (by kernel_rfl) (by kernel_rfl) ⟨hv2, Below.drew hb2⟩ ?_
  simp only [List.take_succ_cons, List.take_zero, List.drop_succ_cons, List.drop_zero]
  refine wq_val (.pointer (some ⟨gv, 0, none⟩)) rfl (fun w' _ => by simp [go_sem]) ?_
  refine wq_val (.pointer (some ⟨gv, 0, none⟩)) rfl (fun w' _ => by simp [go_sem]) ?_
  refine wq_val (.pointer (some ⟨gv, 0, none⟩)) rfl (fun w' _ => by simp [go_sem]) ?_
  simp only [go_sem, List.setIfInBounds_toArray, List.set_cons_succ, List.set_cons_zero]
  refine wq_val (.pointer (some ⟨gv, 1, none⟩)) rfl (fun w' _ => by simp [go_sem]) ?_
  refine wq_val (.int .i64 (n : Nat)) rfl (fun w' h => by have k1 : w'.cell? ⟨gv, 1, none⟩ = some (.int .i64 (n : Nat)) := cell_of_row w' gv 1 _ _ _ h.1
                                                          simp [go_sem, k1]) ?_
  simp only [go_sem, List.setIfInBounds_toArray, List.set_cons_succ, List.set_cons_zero]
  refine wq_val (.pointer (some ⟨gv, 0, none⟩)) rfl (fun w' _ => by simp [go_sem]) ?_
  refine wq_val (.pointer (some ⟨gv, 0, none⟩)) rfl (fun w' _ => by simp [go_sem]) ?_
  refine wq_val (.pointer (some ⟨gv, 2, none⟩)) rfl (fun w' _ => by simp [go_sem]) ?_
  simp only [go_sem, List.setIfInBounds_toArray, List.set_cons_succ, List.set_cons_zero]
  refine wq_val (.int .i64 (m : Nat)) rfl (fun w' h => by have k2 : w'.cell? ⟨gv, 2, none⟩ = some (.int .i64 (m : Nat)) := cell_of_row w' gv 2 _ _ _ h.1
                                                          simp [go_sem, k2]) ?_
  simp only [go_sem, List.setIfInBounds_toArray, List.set_cons_succ, List.set_cons_zero]
  refine wq_call (.agg #[.int .i64 8, .int .i64 (Gv : Nat), .int .i64 (Sv : Nat), .int .i64 (Mv : Nat), .int .i64 (Ev : Nat)]) 27 #[.int .i64 (n : Nat), .int .i64 (m : Nat)] rfl (fun w' => by simp [go_sem]) (fun w' h => (HCUT.out w').mono fun e w'' ⟨h1, h2⟩ => ⟨h1, (h2.block gv (lt_of_block h.1)).trans h.1, h.2.trans (h2.mono h.2.size)⟩) ?_
  refine wq_val (.pointer (some ⟨gv, 0, none⟩)) rfl (fun w' _ => by simp [go_sem]) ?_
  refine wq_val (.pointer (some ⟨gv, 3, none⟩)) rfl (fun w' _ => by simp [go_sem]) ?_
  simp only [go_sem, List.setIfInBounds_toArray, List.set_cons_succ, List.set_cons_zero]
  refine wpQuiet_nil ?_
  rintro w4 ⟨hv4, hb4⟩
  have c3 : w4.cell? ⟨gv, 3, none⟩ = some (.int .i64 0) := cell_of_row w4 gv 3 _ _ _ hv4
  have c4 : w4.cell? ⟨gv, 4, none⟩ = some (.int .i64 0) := cell_of_row w4 gv 4 _ _ _ hv4
  have c5 : w4.cell? ⟨gv, 5, none⟩ = some (.int .i64 0) := cell_of_row w4 gv 5 _ _ _ hv4
  have c6 : w4.cell? ⟨gv, 6, none⟩ = some (.int .i64 0) := cell_of_row w4 gv 6 _ _ _ hv4
  have c7 : w4.cell? ⟨gv, 7, none⟩ = some (.int .i64 0) := cell_of_row w4 gv 7 _ _ _ hv4
  have f3 : ∀ i, w4.frozen? ⟨gv, i, none⟩ = false := fun i => frozen_of_row w4 gv i _ _ hv4
  have hlt4 := lt_of_block hv4
  have HV4 := Lib.hid hv4
  have HB4 := Lib.hid hb4
  clear hv4 hb4 hv2 hb2 hlt
  go_upto_region 11 with fail
  have hv5 := ((((HV4.out.s3 8).s4 (Gv : Nat)).s5 (Sv : Nat)).s6 (Mv : Nat)).s7 (Ev : Nat)
  have hb5 : Below w.heap.size w (((((w4.setCell ⟨gv, 3, none⟩ (.int .i64 8)).setCell ⟨gv, 4, none⟩ (.int .i64 (Gv : Nat))).setCell ⟨gv, 5, none⟩ (.int .i64 (Sv : Nat))).setCell ⟨gv, 6, none⟩ (.int .i64 (Mv : Nat))).setCell ⟨gv, 7, none⟩ (.int .i64 (Ev : Nat))) :=
    ((((HB4.out.setCell (p := ⟨gv, 3, none⟩) hgw _).setCell (p := ⟨gv, 4, none⟩) hgw _).setCell (p := ⟨gv, 5, none⟩) hgw _).setCell (p := ⟨gv, 6, none⟩) hgw _).setCell (p := ⟨gv, 7, none⟩) hgw _
  generalize (((((w4.setCell ⟨gv, 3, none⟩ (.int .i64 8)).setCell ⟨gv, 4, none⟩ (.int .i64 (Gv : Nat))).setCell ⟨gv, 5, none⟩ (.int .i64 (Sv : Nat))).setCell ⟨gv, 6, none⟩ (.int .i64 (Mv : Nat))).setCell ⟨gv, 7, none⟩ (.int .i64 (Ev : Nat))) = w5 at hv5 hb5 ⊢
  have k7 : w5.cell? ⟨gv, 7, none⟩ = some (.int .i64 (Ev : Nat)) := cell_of_row w5 gv 7 _ _ _ hv5
  have HV5 := Lib.hid hv5
  have HB5 := Lib.hid hb5
  clear hv5 hb5 HV4 HB4 c3 c4 c5 c6 c7 f3 hlt4
  go_quiet (fail)
  go_wp2
  go_ret3
  exact ⟨gv, rfl, hgw, HV5.out, below_drewN HB5.out _⟩
theorem shape_ok (w : World) (a : Option Addr) (c : Nat) (bs : List UInt8) (hs : SlI .u8 w a bs.length c (nums bs)) (h8 : 8 ≤ bs.length) (hN : f4 bs 0 ≤ 67108864) (hm : f4 bs 4 ≤ f4 bs 0) (hE : oE (f4 bs 0) (f4 bs 4) ≤ bs.length) :
    Calls Tryd.prog 28 #[.slice a bs.length c] w fun e w' => ∃ gv, e = .returned (.tuple #[.pointer (some ⟨gv, 0, none⟩), .bool ((bs.length : Int) == (oE (f4 bs 0) (f4 bs 4) : Nat)), .nilIface]) ∧ w.heap.size ≤ gv ∧
      VRow w' gv a bs.length c (f4 bs 0) (f4 bs 4) 8 (oG (f4 bs 0) : Nat) (oS (f4 bs 0) : Nat) (oM (f4 bs 0) : Nat) (oE (f4 bs 0) (f4 bs 4) : Nat) ∧ Below w.heap.size w w' := by
  obtain ⟨b, o, rfl, _⟩ := hs.cell 0 (by omega)
  have s4 := hs.tail 4 (by omega)
  have hlen := hs.le
  rw [nums_drop, if_neg (by omega)] at s4
  simp only [Option.map_some, Addr.add_lit] at s4
  refine shape_go w b o bs.length c (f4 bs 0) (f4 bs 4) (oG (f4 bs 0)) (oS (f4 bs 0)) (oM (f4 bs 0)) (oE (f4 bs 0) (f4 bs 4)) h8 hlen hs.max hN hm hE (fun k => four_calls (w.drewN k) _ _ _ _ (hs.drewN k) (by omega)) (fun k => ?_) (fun w' => ?_)
  · have h := four_calls (w.drewN k) _ _ _ _ (s4.drewN k) (by omega)
    rw [f4_drop] at h
    exact h
  · have h := cut_calls (f4 bs 0 : Nat) (f4 bs 4 : Nat) w' (by omega) (by omega) (by omega) (by omega)
    rw [cutV_o] at h
    exact h
theorem vec_of {w : World} {gv : Nat} {a : Option Addr} {c : Nat} {bs : List UInt8} (h : VRow w gv a bs.length c (f4 bs 0) (f4 bs 4) 8 (oG (f4 bs 0) : Nat) (oS (f4 bs 0) : Nat) (oM (f4 bs 0) : Nat) (oE (f4 bs 0) (f4 bs 4) : Nat)) (hs : SlI .u8 w a bs.length c (nums bs)) (hN : f4 bs 0 ≤ 67108864) (hm : f4 bs 4 ≤ f4 bs 0) (hE : bs.length = oE (f4 bs 0) (f4 bs 4)) : VecAt w gv a c bs (f4 bs 0) (f4 bs 4) := ⟨h, hs, hE, hm, hN⟩
end Go.Proofs.YtgajpekolamjbaaDoor
/- What a vector's bytes answer: counts. Plain. -/
namespace Go.Tk
open Go Go.RowKit
theorem getD_nums {l : List UInt8} {i x : Nat} (h : (nums l)[i]? = some ((x : Nat) : Int)) : (l.getD i 0).toNat = x := by
  rw [nums_get?] at h
  cases hq : l[i]? with
  | none => rw [hq] at h; simp at h
  | some b =>
    rw [hq] at h
    rw [List.getD_eq_getElem?_getD, hq]
    have : ((b.toNat : Nat) : Int) = ((x : Nat) : Int) := by simpa using h
    have : b.toNat = x := by omega
    exact this
theorem f4_of {l : List UInt8} {o v : Nat} (h : ∀ r, r < 4 → (nums l)[o + r]? = some ((v / 256 ^ r % 256 : Nat) : Int)) (hv : v < 4294967296) : f4 l o = v := by
  have h0 := getD_nums (h 0 (by decide))
  have h1 := getD_nums (h 1 (by decide))
  have h2 := getD_nums (h 2 (by decide))
  have h3 := getD_nums (h 3 (by decide))
  rw [Nat.add_zero] at h0
  unfold f4
  rw [h0, h1, h2, h3]
  have e1 : (256 : Nat) ^ 1 = 256 := rfl
  have e2 : (256 : Nat) ^ 2 = 65536 := rfl
  have e3 : (256 : Nat) ^ 3 = 16777216 := rfl
  have e0 : (256 : Nat) ^ 0 = 1 := rfl
  rw [e0, e1, e2, e3]
  omega
theorem f2_of {l : List UInt8} {o v : Nat} (h : ∀ r, r < 2 → (nums l)[o + r]? = some ((v / 256 ^ r % 256 : Nat) : Int)) (hv : v < 65536) : f2 l o = v := by
  have h0 := getD_nums (h 0 (by decide))
  have h1 := getD_nums (h 1 (by decide))
  rw [Nat.add_zero] at h0
  unfold f2
  rw [h0, h1]
  have e1 : (256 : Nat) ^ 1 = 256 := rfl
  have e0 : (256 : Nat) ^ 0 = 1 := rfl
  rw [e0, e1]
  omega
theorem wh_head (d : List UInt8) (N : Nat) (r : Nat) (h : r < 4) : (nums (whB d N))[0 + r]? = some ((N / 256 ^ r % 256 : Nat) : Int) ∧ (nums (whB d N))[4 + r]? = some ((cntB d N / 256 ^ r % 256 : Nat) : Int) := by
  have hw : nums (whB d N) = nums (leB N 4) ++ (nums (leB (cntB d N) 4) ++ nums (d ++ catB 4 (grL d N) ++ catB 2 (smL d N) ++ catB 4 (mkL d N))) := by
    unfold whB
    simp only [nums_append, List.append_assoc]
  rw [hw]
  refine ⟨?_, ?_⟩
  · rw [Nat.zero_add, List.getElem?_append_left (by rw [nums_len, le_len]; exact h), le_nums h]
  · rw [List.getElem?_append_right (by rw [nums_len, le_len]; omega), nums_len, le_len, Nat.add_sub_cancel_left, List.getElem?_append_left (by rw [nums_len, le_len]; exact h), le_nums h]
theorem wh_n {d : List UInt8} {N : Nat} (hN : N ≤ 67108864) : f4 (whB d N) 0 = N := f4_of (fun r h => (wh_head d N r h).1) (by omega)
theorem wh_m {d : List UInt8} {N : Nat} (hN : N ≤ 67108864) : f4 (whB d N) 4 = cntB d N := f4_of (fun r h => (wh_head d N r h).2) (by have := cnt_le d N; omega)
theorem o_eq {d : List UInt8} {N : Nat} (hl : d.length = (N + 7) / 8) : oG N = grO d ∧ oS N = smO d N ∧ oM N = mkO d N ∧ oE N (cntB d N) = enO d N := by
  have e1 : oG N = grO d := by unfold oG grO; omega
  have e2 : oS N = smO d N := by unfold oS smO; rw [e1]
  have e3 : oM N = mkO d N := by unfold oM mkO; rw [e2]
  exact ⟨e1, e2, e3, by unfold oE enO; rw [e3]⟩
theorem dat_wh (d : List UInt8) (N : Nat) : ∃ t, datB (whB d N) = d ++ t := by
  refine ⟨catB 4 (grL d N) ++ (catB 2 (smL d N) ++ catB 4 (mkL d N)), ?_⟩
  have e : whB d N = (leB N 4 ++ leB (cntB d N) 4) ++ (d ++ (catB 4 (grL d N) ++ (catB 2 (smL d N) ++ catB 4 (mkL d N)))) := by unfold whB; simp only [List.append_assoc]
  unfold datB
  rw [e, List.drop_left' (by simp [le_len])]
theorem bt_app (d t : List UInt8) (i : Nat) (h : i < 8 * d.length) : btB (d ++ t) i = btB d i := by
  unfold btB
  rw [List.getD_eq_getElem?_getD, List.getElem?_append_left (by omega), ← List.getD_eq_getElem?_getD]
theorem cnt_app (d t : List UInt8) : ∀ i, i ≤ 8 * d.length → cntB (d ++ t) i = cntB d i
  | 0, _ => rfl
  | i + 1, h => by simp only [cntB]; rw [cnt_app d t i (by omega), bt_app d t i (by omega)]
/-- Rank of right bytes. -/
theorem rank_wh {d : List UInt8} {N : Nat} (hl : d.length = (N + 7) / 8) (hN : N ≤ 67108864) (i : Int) : rankV (whB d N) N (cntB d N) i = cntB d (min i.toNat N) := by
  unfold rankV
  by_cases h1 : i ≤ 0 ∨ N = 0
  · rw [if_pos h1]
    have : min i.toNat N = 0 := by omega
    rw [this]; rfl
  rw [if_neg h1]
  by_cases h2 : (N : Int) ≤ i
  · rw [if_pos h2, show min i.toNat N = N by omega]
  rw [if_neg h2]
  obtain ⟨k, rfl⟩ : ∃ k : Nat, i = k := ⟨i.toNat, by omega⟩
  rw [Int.toNat_natCast, show min k N = k by omega]
  obtain ⟨e1, e2, _, _⟩ := o_eq hl
  obtain ⟨t, ht⟩ := dat_wh d N
  have vg : Vt d N (2048, k / 2048, cntB d (k / 2048 * 2048)) := .inl ⟨rfl, gr_get d (k / 2048) N (by omega)⟩
  have vs : Vt d N (256, k / 256, cntB d (k / 256 * 256) - cntB d (k / 256 / 8 * 2048)) := .inr (.inl ⟨rfl, sm_get d (k / 256) N (by omega)⟩)
  have g1 := cnt_le d (k / 2048 * 2048)
  have g2 := cnt_add d (k / 256 / 8 * 2048) (k / 256 * 256 - k / 256 / 8 * 2048)
  rw [show k / 256 / 8 * 2048 + (k / 256 * 256 - k / 256 / 8 * 2048) = k / 256 * 256 by omega] at g2
  have g3 := cnt_mono d (show k / 256 * 256 ≤ k by omega)
  have g4 := cnt_le d k
  have a1 : f4 (whB d N) (oG N + 4 * (k / 2048)) = cntB d (k / 2048 * 2048) := by
    rw [e1]
    exact f4_of (fun r h => (wh_at vg).2 r h) (by omega)
  have a2 : f2 (whB d N) (oS N + 2 * (k / 256)) = cntB d (k / 256 * 256) - cntB d (k / 256 / 8 * 2048) := by
    rw [e2]
    exact f2_of (fun r h => (wh_at vs).2 r h) (by omega)
  have e8 : k / 256 / 8 * 2048 = k / 2048 * 2048 := by omega
  rw [e8] at a2 g2
  have hr : rawV (whB d N) N k = cntB d k := by
    unfold rawV
    rw [a1, a2, ht, cnt_app d t k (by omega), cnt_app d t _ (by omega)]
    omega
  rw [hr]; omega
end Go.Tk
/- View, data of right bytes. -/
namespace Go.Proofs.YtgajpekolamjbaaDoor
open Go.RowKit Go.Tk
theorem shape_wh (w : World) (a : Option Addr) (c : Nat) (d : List UInt8) (N : Nat) (hl : d.length = (N + 7) / 8) (hN : N ≤ 67108864) (hs : SlI .u8 w a (whB d N).length c (nums (whB d N))) :
    Calls Tryd.prog 28 #[.slice a (whB d N).length c] w fun e w' => ∃ gv, e = .returned (.tuple #[.pointer (some ⟨gv, 0, none⟩), .bool true, .nilIface]) ∧ w.heap.size ≤ gv ∧ VecAt w' gv a c (whB d N) N (cntB d N) ∧ Below w.heap.size w w' := by
  obtain ⟨e1, e2, e3, e4⟩ := o_eq hl
  have hlen : (whB d N).length = oE N (cntB d N) := by rw [wh_len', e4]
  have h8 : 8 ≤ (whB d N).length := by rw [hlen]; unfold oE oM oS oG; omega
  have hm := cnt_le d N
  have h := shape_ok w a c (whB d N) hs h8 (by rw [wh_n hN]; exact hN) (by rw [wh_n hN, wh_m hN]; exact hm) (by rw [wh_n hN, wh_m hN, hlen]; exact Nat.le_refl _)
  rw [wh_n hN, wh_m hN] at h
  refine h.mono fun e w' ⟨gv, h1, h2, h3, h4⟩ => ⟨gv, ?_, h2, ⟨h3, hs.keep h4, hlen, hm, hN⟩, h4⟩
  rw [h1, show (((whB d N).length : Int) == (oE N (cntB d N) : Nat)) = true by rw [hlen]; simp]
theorem view_wh (w : World) (a : Option Addr) (c : Nat) (d : List UInt8) (N : Nat) (hl : d.length = (N + 7) / 8) (hN : N ≤ 67108864) (hs : SlI .u8 w a (whB d N).length c (nums (whB d N))) :
    Calls Tryd.prog 16 #[.slice a (whB d N).length c] w fun e w' => ∃ gv, e = .returned (.tuple #[.pointer (some ⟨gv, 0, none⟩), .nilIface]) ∧ w.heap.size ≤ gv ∧ VecAt w' gv a c (whB d N) N (cntB d N) ∧ Below w.heap.size w w' := by
  have h := shape_wh w a c d N hl hN hs
  have H := Lib.hid h
  clear h hs
  go_enter Tryd.func16, Tryd.ntmps16
  go_wp2_with (go_at_call 28; (with_reducible refine H.out.mono ?_); rintro e w1 ⟨gv, rfl, hgv, hv, hb⟩; (have HV := Lib.hid hv); (have HB := Lib.hid hb); (have HG := Lib.hid hgv); clear hv hb hgv)
  go_ret2
  exact ⟨gv, rfl, HG.out, HV.out, HB.out⟩
set_option maxRecDepth 100000 in
set_option maxHeartbeats 1000000 in
theorem data_go (w : World) (gv b o L c G : Nat) (hG : 8 ≤ G) (hGL : G ≤ L) (hLc : L ≤ c) (hc : c ≤ 9223372036854775807)
    (k0 : w.cell? ⟨gv, 0, none⟩ = some (.slice (some ⟨b, o, none⟩) L c)) (k3 : w.cell? ⟨gv, 3, none⟩ = some (.int .i64 8)) (k4 : w.cell? ⟨gv, 4, none⟩ = some (.int .i64 (G : Nat))) :
    Calls Tryd.prog 54 #[.pointer (some ⟨gv, 0, none⟩)] w fun e w' => e = .returned (.slice (if c = 8 then some ⟨b, o, none⟩ else some ⟨b, o + 8, none⟩) (G - 8) (c - 8)) ∧ ∃ k, w' = w.drewN k := by
  obtain ⟨b8, h8⟩ : ∃ b : Prop, (c = 8) = b := ⟨_, rfl⟩
  rcases (show b8 = True ∨ b8 = False by by_cases h : c = 8; exact .inl (h8.symm.trans (eq_true h)); exact .inr (h8.symm.trans (eq_false h))) with rfl | rfl
  · rw [if_pos (of_eq_true h8)]
    go_enter Tryd.func54, Tryd.ntmps54
    go_wp2_with fail
    go_quiet (fail)
    go_wp2
    go_ret
    exact ⟨rfl, _, rfl⟩
  · rw [if_neg (of_eq_false h8)]
    go_enter Tryd.func54, Tryd.ntmps54
    go_wp2_with fail
    go_quiet (fail)
    go_wp2
    go_ret
    exact ⟨rfl, _, rfl⟩
end Go.Proofs.YtgajpekolamjbaaDoor
