/- The document's head and View. -/
import Derived.Test.YtpphjiialgmidaaDoorRkOp
import Derived.Laws.EntriesVeiled
import Derived.Laws.Tables
set_option linter.unusedVariables false
set_option linter.unusedSimpArgs false
namespace Go.Proofs.YtpphjiialgmidaaDoor
open Go.RowKit Go.Tk
theorem Tryd.sizeFl : (Tryd.prog.info? 30).map (·.size) = some 2 := by kernel_rfl
theorem cell_ro0 {w : World} {b : Nat} {x y : Value} {t : TypeId} (h : w.heap[b]? = some (.cells #[x, y] t (0, 0))) : w.cell? ⟨b, 0, none⟩ = some x := by simp [World.cell?, h]
theorem cell_ro1 {w : World} {b : Nat} {x y : Value} {t : TypeId} (h : w.heap[b]? = some (.cells #[x, y] t (0, 0))) : w.cell? ⟨b, 1, none⟩ = some y := by simp [World.cell?, h]
theorem stor2 {w : World} {g : Nat} {x y u v : Value} {t : TypeId} (h : w.heap[g]? = some (.cells #[x, y] t (0, 0))) : ((w.setCell ⟨g, 0, none⟩ u).setCell ⟨g, 1, none⟩ v).heap[g]? = some (.cells #[u, v] t (0, 0)) :=
  heap_setCell_same _ _ 1 _ _ _ (heap_setCell_same _ _ 0 _ _ _ h)
/-- What is wrong with the first eight bytes. -/
def hdF (bs : List UInt8) : Nat × Nat := if bs.length < 8 then (bs.length, 10) else if 67108864 < f4 bs 0 then (0, 2) else if f4 bs 0 < f4 bs 4 then (4, 20) else (0, 0)
set_option maxRecDepth 100000 in
set_option maxHeartbeats 4000000 in
theorem rhead_calls (w : World) (a : Option Addr) (c : Nat) (bs : List UInt8) (hs : SlI .u8 w a bs.length c (nums bs)) :
    Calls Tryd.prog 17 #[.slice a bs.length c] w fun e w' => e = .returned (.agg #[.int .i64 ((hdF bs).1 : Nat), .int .i64 ((hdF bs).2 : Nat)]) ∧ Below w.heap.size w w' := by
  have HI := Lib.hid Tryd.sizeFl
  have hrow : (w.alloc (.cells #[.int .i64 0, .int .i64 0] 30)).heap[w.heap.size]? = some (.cells #[.int .i64 0, .int .i64 0] 30 (0, 0)) := heap_alloc_new w _
  have hB0 := (Below.refl w.heap.size w).alloc (Nat.le_refl _) (.cells #[.int .i64 0, .int .i64 0] 30)
  have HROW := Lib.hid hrow
  have HB0 := Lib.hid hB0
  by_cases h1 : bs.length < 8
  · have e : hdF bs = (bs.length, 10) := by unfold hdF; rw [if_pos h1]
    rw [e]
    have d0 := cell_ro0 hrow
    have d1 := cell_ro1 hrow
    have g0 := frozen_of_row _ _ 0 _ _ hrow
    have g1 := frozen_of_row _ _ 1 _ _ hrow
    clear hs e hrow hB0
    go_enter Tryd.func17, Tryd.ntmps17
    go_wp2_with fail
    refine bodyPost_ret (results_cell_row rfl _ _ w.heap.size _ _ _ _ rfl (heap_alloc_new w _) Tryd.underlying30 rfl HI.out) rfl ⟨rfl, ?_⟩
    exact (Below.refl w.heap.size w).alloc (Nat.le_refl _) _
  have hnum := numbers_calls _ a c bs (hs.keep hB0) (by omega)
  have HN := Lib.hid hnum
  have b0 := f4_lt bs 0
  have b4 := f4_lt bs 4
  have e : hdF bs = if 67108864 < f4 bs 0 then (0, 2) else if f4 bs 0 < f4 bs 4 then (4, 20) else (0, 0) := by unfold hdF; rw [if_neg h1]
  rw [e]
  clear hnum hs hrow hB0 e
  generalize f4 bs 0 = n at HN b0 ⊢
  generalize f4 bs 4 = m at HN b4 ⊢
  by_cases h2 : 67108864 < n
  · rw [if_pos h2]
    go_enter Tryd.func17, Tryd.ntmps17
    go_wp2_with (go_at_call 18; (with_reducible refine HN.out.mono ?_); rintro e w1 ⟨rfl, hd⟩; (have hr1 : w1.heap[w.heap.size]? = some (.cells #[.int .i64 0, .int .i64 0] 30 (0, 0)) := by obtain ⟨q, rfl⟩ := hd; exact HROW.out); (have d0 := cell_ro0 hr1); (have d1 := cell_ro1 hr1); (have g0 := frozen_of_row _ _ 0 _ _ hr1); (have g1 := frozen_of_row _ _ 1 _ _ hr1); (have HR1 := Lib.hid hr1); (have HB1 := Lib.hid (show Below w.heap.size w w1 by obtain ⟨q, rfl⟩ := hd; exact below_drewN HB0.out q)); clear hr1 hd)
    refine bodyPost_ret (results_cell_row rfl _ _ w.heap.size _ _ _ _ rfl (stor2 HR1.out) Tryd.underlying30 rfl HI.out) rfl ⟨rfl, ?_⟩
    exact (HB1.out.setCell (p := ⟨w.heap.size, 0, none⟩) (Nat.le_refl _) _).setCell (p := ⟨w.heap.size, 1, none⟩) (Nat.le_refl _) _
  rw [if_neg h2]
  by_cases h3 : n < m
  · rw [if_pos h3]
    go_enter Tryd.func17, Tryd.ntmps17
    go_wp2_with (go_at_call 18; (with_reducible refine HN.out.mono ?_); rintro e w1 ⟨rfl, hd⟩; (have hr1 : w1.heap[w.heap.size]? = some (.cells #[.int .i64 0, .int .i64 0] 30 (0, 0)) := by obtain ⟨q, rfl⟩ := hd; exact HROW.out); (have d0 := cell_ro0 hr1); (have d1 := cell_ro1 hr1); (have g0 := frozen_of_row _ _ 0 _ _ hr1); (have g1 := frozen_of_row _ _ 1 _ _ hr1); (have HR1 := Lib.hid hr1); (have HB1 := Lib.hid (show Below w.heap.size w w1 by obtain ⟨q, rfl⟩ := hd; exact below_drewN HB0.out q)); clear hr1 hd)
    refine bodyPost_ret (results_cell_row rfl _ _ w.heap.size _ _ _ _ rfl (stor2 HR1.out) Tryd.underlying30 rfl HI.out) rfl ⟨rfl, ?_⟩
    exact (HB1.out.setCell (p := ⟨w.heap.size, 0, none⟩) (Nat.le_refl _) _).setCell (p := ⟨w.heap.size, 1, none⟩) (Nat.le_refl _) _
  · rw [if_neg h3]
    go_enter Tryd.func17, Tryd.ntmps17
    go_wp2_with (go_at_call 18; (with_reducible refine HN.out.mono ?_); rintro e w1 ⟨rfl, hd⟩; (have hr1 : w1.heap[w.heap.size]? = some (.cells #[.int .i64 0, .int .i64 0] 30 (0, 0)) := by obtain ⟨q, rfl⟩ := hd; exact HROW.out); (have d0 := cell_ro0 hr1); (have d1 := cell_ro1 hr1); (have g0 := frozen_of_row _ _ 0 _ _ hr1); (have g1 := frozen_of_row _ _ 1 _ _ hr1); (have HR1 := Lib.hid hr1); (have HB1 := Lib.hid (show Below w.heap.size w w1 by obtain ⟨q, rfl⟩ := hd; exact below_drewN HB0.out q)); clear hr1 hd)
    refine bodyPost_ret (results_cell_row rfl _ _ w.heap.size _ _ _ _ rfl (stor2 HR1.out) Tryd.underlying30 rfl HI.out) rfl ⟨rfl, ?_⟩
    exact (HB1.out.setCell (p := ⟨w.heap.size, 0, none⟩) (Nat.le_refl _) _).setCell (p := ⟨w.heap.size, 1, none⟩) (Nat.le_refl _) _
/-- The size of a vector, in the document's words. -/
theorem rsize_at (n m : Nat) (w : World) (h1 : n ≤ 67108864) (h3 : m ≤ n) :
    Calls Tryd.prog 19 #[.int .i64 (n : Nat), .int .i64 (m : Nat)] w fun e w' => e = .returned (.int .i64 (oE n m : Nat)) ∧ w = w' := by
  have h := rsize_yes (n : Nat) (m : Nat) w (by omega) (by omega) (by omega) (by omega)
  have e : sizeI (n : Nat) (m : Nat) = (oE n m : Nat) := by unfold sizeI oE oM oS oG; omega
  rwa [e] at h
set_option maxRecDepth 100000 in
set_option maxHeartbeats 4000000 in
theorem rview_calls (w : World) (a : Option Addr) (c : Nat) (bs : List UInt8) (hs : SlI .u8 w a bs.length c (nums bs)) :
    Calls Tryd.prog 8 #[.slice a bs.length c] w fun e w' => e = .returned (.agg #[.int .i64 ((fV bs).1 : Nat), .int .i64 ((fV bs).2 : Nat)]) ∧ Below w.heap.size w w' := by
  have HI := Lib.hid Tryd.sizeFl
  have hrow : (w.alloc (.cells #[.int .i64 0, .int .i64 0] 30)).heap[w.heap.size]? = some (.cells #[.int .i64 0, .int .i64 0] 30 (0, 0)) := heap_alloc_new w _
  have hB0 := (Below.refl w.heap.size w).alloc (Nat.le_refl _) (.cells #[.int .i64 0, .int .i64 0] 30)
  have hhd := rhead_calls _ a c bs (hs.keep hB0)
  have hnum := fun w' h => numbers_calls w' a c bs h
  have HROW := Lib.hid hrow
  have HB0 := Lib.hid hB0
  have HS := Lib.hid hs
  have HH := Lib.hid hhd
  have HN := Lib.hid hnum
  clear hhd hs hrow hB0 hnum
  have hfs : hdF bs = shF bs ∨ ((hdF bs).2 = 0 ∧ shF bs = if bs.length < oE (f4 bs 0) (f4 bs 4) then (bs.length, 10) else (0, 0)) := by
    unfold hdF shF
    by_cases h1 : bs.length < 8
    · exact .inl (by rw [if_pos h1, if_pos h1])
    rw [if_neg h1, if_neg h1]
    by_cases h2 : 67108864 < f4 bs 0
    · exact .inl (by rw [if_pos h2, if_pos h2])
    rw [if_neg h2, if_neg h2]
    by_cases h3 : f4 bs 0 < f4 bs 4
    · exact .inl (by rw [if_pos h3, if_pos h3])
    rw [if_neg h3, if_neg h3]
    exact .inr ⟨rfl, rfl⟩
  obtain ⟨x, hx⟩ : ∃ x, x = (hdF bs).1 := ⟨_, rfl⟩
  obtain ⟨y, hy⟩ : ∃ y, y = (hdF bs).2 := ⟨_, rfl⟩
  rw [← hx, ← hy] at HH
  have HX := Lib.hid hx
  have HY := Lib.hid hy
  have HFS := Lib.hid hfs
  clear hx hy hfs
  go_enter Tryd.func8, Tryd.ntmps8
  go_wp2_with fail
  go_at_call 17
  (with_reducible refine HH.out.mono ?_)
  rintro e w1 ⟨rfl, hb⟩
  have hr1 := (hb.block w.heap.size (lt_of_block HROW.out)).trans HROW.out
  have HR1 := Lib.hid hr1
  have HB1 := Lib.hid (HB0.out.trans (hb.mono HB0.out.size))
  clear hr1 hb
  go_upto_region 2 with fail
  have hlt1 := lt_of_block HR1.out
  have hr2 : (w1.alloc (.cells #[.int .i64 (x : Nat), .int .i64 (y : Nat)] 30)).heap[w.heap.size]? = some (.cells #[.int .i64 0, .int .i64 0] 30 (0, 0)) := (Below.heap_alloc _ _ _ hlt1).trans HR1.out
  have hr3 : (w1.alloc (.cells #[.int .i64 (x : Nat), .int .i64 (y : Nat)] 30)).heap[w1.heap.size]? = some (.cells #[.int .i64 (x : Nat), .int .i64 (y : Nat)] 30 (0, 0)) := heap_alloc_new w1 _
  have hb2 := HB1.out.alloc HB1.out.size (.cells #[.int .i64 (x : Nat), .int .i64 (y : Nat)] 30)
  have hne : w1.heap.size ≠ w.heap.size := by omega
  generalize w1.alloc (.cells #[.int .i64 (x : Nat), .int .i64 (y : Nat)] 30) = w2 at hr2 hr3 hb2 ⊢
  generalize w1.heap.size = g3 at hr3 hne ⊢
  have c1 := cell_ro1 hr3
  have c0 := cell_ro0 hr3
  have d0 := cell_ro0 hr2
  have d1 := cell_ro1 hr2
  have e0 := frozen_of_row _ _ 0 _ _ hr2
  have e1 := frozen_of_row _ _ 1 _ _ hr2
  have HR2 := Lib.hid hr2
  have HR3 := Lib.hid hr3
  have HB2 := Lib.hid hb2
  clear hr2 hr3 hb2 HR1 HB1 HROW HB0 HH
  by_cases hy0 : y ≠ 0
  · have hy1 : ((y : Int) != 0) = true := by simp; omega
    have hfv : fV bs = hdF bs := by
      rcases HFS.out with h | ⟨h, _⟩
      · unfold fV; rw [← h, ← HY.out, if_pos hy0]
      · exact absurd (HY.out.trans h) hy0
    have HFV := Lib.hid hfv
    clear hfv
    go_wp2_with (refine wpList_load_row rfl 30 _ rfl g3 rfl _ #[.int .i64 (x : Nat), .int .i64 (y : Nat)] _ _ HR3.out Tryd.underlying30 rfl HI.out ?_)
    refine bodyPost_ret (results_cell_row rfl _ _ w.heap.size _ _ _ _ rfl (stor2 HR2.out) Tryd.underlying30 rfl HI.out) rfl ⟨by rw [HFV.out, ← HX.out, ← HY.out], ?_⟩
    exact (HB2.out.setCell (p := ⟨w.heap.size, 0, none⟩) (Nat.le_refl _) _).setCell (p := ⟨w.heap.size, 1, none⟩) (Nat.le_refl _) _
  have hy00 : y = 0 := by simpa using hy0
  subst hy00
  have hyz : (((0 : Nat) : Int) != 0) = false := by simp
  have hh : 8 ≤ bs.length ∧ f4 bs 0 ≤ 67108864 ∧ f4 bs 4 ≤ f4 bs 0 := by
    have h := HY.out
    unfold hdF at h
    split at h; · simp at h
    split at h; · simp at h
    split at h; · simp at h
    omega
  obtain ⟨h8, hN, hm⟩ := hh
  have hsF : shF bs = if bs.length < oE (f4 bs 0) (f4 bs 4) then (bs.length, 10) else (0, 0) := by
    unfold shF; rw [if_neg (by omega), if_neg (by omega), if_neg (by omega)]
  have hnum := HN.out w2 (HS.out.keep (HB2.out)) h8
  have hsz := fun w' => rsize_at (f4 bs 0) (f4 bs 4) w' hN hm
  have hEb : oE (f4 bs 0) (f4 bs 4) ≤ 1000000000 := by unfold oE oM oS oG; omega
  have hfv : fV bs = if bs.length < oE (f4 bs 0) (f4 bs 4) then (bs.length, 10) else if oE (f4 bs 0) (f4 bs 4) < bs.length then (oE (f4 bs 0) (f4 bs 4), 13) else (0, 0) := by
    unfold fV
    rw [hsF]
    split
    · rfl
    · rfl
  obtain ⟨n, hn⟩ : ∃ n, n = f4 bs 0 := ⟨_, rfl⟩
  obtain ⟨m, hmm⟩ : ∃ m, m = f4 bs 4 := ⟨_, rfl⟩
  rw [← hn, ← hmm] at hnum hsz hEb hfv
  obtain ⟨E, hE⟩ : ∃ E, E = oE n m := ⟨_, rfl⟩
  rw [← hE] at hsz hEb hfv
  have HFV := Lib.hid hfv
  have HNUM := Lib.hid hnum
  have HSZ := Lib.hid hsz
  clear hfv hsF HFS HX HY HR3 c0 hy0 hnum hsz hE hn hmm hN hm HN HS d0 d1 e0 e1
  go_upto_region 5 with (go_at_call 18; (with_reducible refine HNUM.out.mono ?_); rintro e w3 ⟨rfl, hd⟩; (have hr1 : w3.heap[w.heap.size]? = some (.cells #[.int .i64 0, .int .i64 0] 30 (0, 0)) := by obtain ⟨q, rfl⟩ := hd; exact HR2.out); (have HB3 := Lib.hid (show Below w.heap.size w w3 by obtain ⟨q, rfl⟩ := hd; exact below_drewN HB2.out q)); (have d0 := cell_ro0 hr1); (have d1 := cell_ro1 hr1); (have g0 := frozen_of_row _ _ 0 _ _ hr1); (have g1 := frozen_of_row _ _ 1 _ _ hr1); (have HR1 := Lib.hid hr1); clear hr1 hd)
  clear c1 HR2 HB2
  by_cases h1 : bs.length < E
  · have HF := Lib.hid (show fV bs = (bs.length, 10) by rw [HFV.out, if_pos h1])
    go_wp2_with (go_at_call 19; (with_reducible refine (HSZ.out _).mono ?_); rintro e w4 ⟨rfl, rfl⟩)
    refine bodyPost_ret (results_cell_row rfl _ _ w.heap.size _ _ _ _ rfl (stor2 HR1.out) Tryd.underlying30 rfl HI.out) rfl ⟨by rw [HF.out]; rfl, ?_⟩
    exact (HB3.out.setCell (p := ⟨w.heap.size, 0, none⟩) (Nat.le_refl _) _).setCell (p := ⟨w.heap.size, 1, none⟩) (Nat.le_refl _) _
  by_cases h2 : E < bs.length
  · have HF := Lib.hid (show fV bs = (E, 13) by rw [HFV.out, if_neg h1, if_pos h2])
    go_wp2_with (go_at_call 19; (with_reducible refine (HSZ.out _).mono ?_); rintro e w4 ⟨rfl, rfl⟩)
    refine bodyPost_ret (results_cell_row rfl _ _ w.heap.size _ _ _ _ rfl (stor2 HR1.out) Tryd.underlying30 rfl HI.out) rfl ⟨by rw [HF.out]; rfl, ?_⟩
    exact (HB3.out.setCell (p := ⟨w.heap.size, 0, none⟩) (Nat.le_refl _) _).setCell (p := ⟨w.heap.size, 1, none⟩) (Nat.le_refl _) _
  · have HF := Lib.hid (show fV bs = (0, 0) by rw [HFV.out, if_neg h1, if_neg h2])
    go_wp2_with (go_at_call 19; (with_reducible refine (HSZ.out _).mono ?_); rintro e w4 ⟨rfl, rfl⟩)
    refine bodyPost_ret (results_cell_row rfl _ _ w.heap.size _ _ _ _ rfl (stor2 HR1.out) Tryd.underlying30 rfl HI.out) rfl ⟨by rw [HF.out]; rfl, ?_⟩
    exact (HB3.out.setCell (p := ⟨w.heap.size, 0, none⟩) (Nat.le_refl _) _).setCell (p := ⟨w.heap.size, 1, none⟩) (Nat.le_refl _) _
end Go.Proofs.YtpphjiialgmidaaDoor
