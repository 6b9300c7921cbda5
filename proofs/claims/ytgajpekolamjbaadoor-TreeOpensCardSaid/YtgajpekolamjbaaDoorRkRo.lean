/- RkFl RkRo, laid as one. -/
import Derived.Test.YtgajpekolamjbaaDoorTrP
import Derived.Laws.EntriesVeiled
import Derived.Laws.Tables
import Derived.Test.YtgajpekolamjbaaDoorRkQq
import Derived.Test.YtgajpekolamjbaaDoorRkRc
set_option linter.unusedVariables false
set_option linter.unusedSimpArgs false
/- The document's head and View. -/
namespace Go.Proofs.YtgajpekolamjbaaDoor
open Go.RowKit Go.Tk
theorem Tryd.sizeFl : (Tryd.prog.info? 137).map (·.size) = some 2 := by kernel_rfl
theorem cell_ro0 {w : World} {b : Nat} {x y : Value} {t : TypeId} (h : w.heap[b]? = some (.cells #[x, y] t (0, 0))) : w.cell? ⟨b, 0, none⟩ = some x := by simp [World.cell?, h]
theorem cell_ro1 {w : World} {b : Nat} {x y : Value} {t : TypeId} (h : w.heap[b]? = some (.cells #[x, y] t (0, 0))) : w.cell? ⟨b, 1, none⟩ = some y := by simp [World.cell?, h]
theorem stor2 {w : World} {g : Nat} {x y u v : Value} {t : TypeId} (h : w.heap[g]? = some (.cells #[x, y] t (0, 0))) : ((w.setCell ⟨g, 0, none⟩ u).setCell ⟨g, 1, none⟩ v).heap[g]? = some (.cells #[u, v] t (0, 0)) :=
  heap_setCell_same _ _ 1 _ _ _ (heap_setCell_same _ _ 0 _ _ _ h)
/-- What is wrong with the first eight bytes. -/
def hdF (bs : List UInt8) : Nat × Nat := if bs.length < 8 then (bs.length, 10) else if 67108864 < f4 bs 0 then (0, 2) else if f4 bs 0 < f4 bs 4 then (4, 20) else (0, 0)
set_option maxRecDepth 100000 in
set_option maxHeartbeats 4000000 in
theorem rhead_calls (w : World) (a : Option Addr) (c : Nat) (bs : List UInt8) (hs : SlI .u8 w a bs.length c (nums bs)) :
    Calls Tryd.prog 69 #[.slice a bs.length c] w fun e w' => e = .returned (.agg #[.int .i64 ((hdF bs).1 : Nat), .int .i64 ((hdF bs).2 : Nat)]) ∧ Below w.heap.size w w' := by
  have HI := Lib.hid Tryd.sizeFl
  have hrow : (w.alloc (.cells #[.int .i64 0, .int .i64 0] 137)).heap[w.heap.size]? = some (.cells #[.int .i64 0, .int .i64 0] 137 (0, 0)) := heap_alloc_new w _
  have hB0 := (Below.refl w.heap.size w).alloc (Nat.le_refl _) (.cells #[.int .i64 0, .int .i64 0] 137)
  have HROW := Lib.hid hrow
  have HB0 := Lib.hid hB0
  by_cases h1 : bs.length < 8
  · have e : hdF bs = (bs.length, 10) := by unfold hdF; rw [if_pos h1]
    rw [e]
    have d0 := cell_ro0 hrow
    have d1 := cell_ro1 hrow
    have g0 := frozen_of_row _ _ 0 _ _ hrow
    have g1 := frozen_of_row _ _ 1 _ _ hrow
    clear hs e hrow hB0
    go_enter Tryd.func69, Tryd.ntmps69
    go_wp2_with fail
    refine bodyPost_ret (results_cell_row rfl _ _ w.heap.size _ _ _ _ rfl (heap_alloc_new w _) Tryd.underlying137 rfl HI.out) rfl ⟨rfl, ?_⟩
    exact (Below.refl w.heap.size w).alloc (Nat.le_refl _) _
  have hnum := numbers_calls _ a c bs (hs.keep hB0) (by omega)
  have HN := Lib.hid hnum
  have b0 := f4_lt bs 0
  have b4 := f4_lt bs 4
  have e : hdF bs = if 67108864 < f4 bs 0 then (0, 2) else if f4 bs 0 < f4 bs 4 then (4, 20) else (0, 0) := by unfold hdF; rw [if_neg h1]
  rw [e]
  clear hnum hs hrow hB0 e
  generalize f4 bs 0 = n at HN b0 ⊢
  generalize f4 bs 4 = m at HN b4 ⊢
  by_cases h2 : 67108864 < n
  · rw [if_pos h2]
    go_enter Tryd.func69, Tryd.ntmps69
    go_wp2_with (go_at_call 60; (with_reducible refine HN.out.mono ?_); rintro e w1 ⟨rfl, hd⟩; (have hr1 : w1.heap[w.heap.size]? = some (.cells #[.int .i64 0, .int .i64 0] 137 (0, 0)) := by obtain ⟨q, rfl⟩ := hd; exact HROW.out); (have d0 := cell_ro0 hr1); (have d1 := cell_ro1 hr1); (have g0 := frozen_of_row _ _ 0 _ _ hr1); (have g1 := frozen_of_row _ _ 1 _ _ hr1); (have HR1 := Lib.hid hr1); (have HB1 := Lib.hid (show Below w.heap.size w w1 by obtain ⟨q, rfl⟩ := hd; exact below_drewN HB0.out q)); clear hr1 hd)
    refine bodyPost_ret (results_cell_row rfl _ _ w.heap.size _ _ _ _ rfl (stor2 HR1.out) Tryd.underlying137 rfl HI.out) rfl ⟨rfl, ?_⟩
    exact (HB1.out.setCell (p := ⟨w.heap.size, 0, none⟩) (Nat.le_refl _) _).setCell (p := ⟨w.heap.size, 1, none⟩) (Nat.le_refl _) _
  rw [if_neg h2]
  by_cases h3 : n < m
  · rw [if_pos h3]
    go_enter Tryd.func69, Tryd.ntmps69
    go_wp2_with (go_at_call 60; (with_reducible refine HN.out.mono ?_); rintro e w1 ⟨rfl, hd⟩; (have hr1 : w1.heap[w.heap.size]? = some (.cells #[.int .i64 0, .int .i64 0] 137 (0, 0)) := by obtain ⟨q, rfl⟩ := hd; exact HROW.out); (have d0 := cell_ro0 hr1); (have d1 := cell_ro1 hr1); (have g0 := frozen_of_row _ _ 0 _ _ hr1); (have g1 := frozen_of_row _ _ 1 _ _ hr1); (have HR1 := Lib.hid hr1); (have HB1 := Lib.hid (show Below w.heap.size w w1 by obtain ⟨q, rfl⟩ := hd; exact below_drewN HB0.out q)); clear hr1 hd)
    refine bodyPost_ret (results_cell_row rfl _ _ w.heap.size _ _ _ _ rfl (stor2 HR1.out) Tryd.underlying137 rfl HI.out) rfl ⟨rfl, ?_⟩
    exact (HB1.out.setCell (p := ⟨w.heap.size, 0, none⟩) (Nat.le_refl _) _).setCell (p := ⟨w.heap.size, 1, none⟩) (Nat.le_refl _) _
  · rw [if_neg h3]
    go_enter Tryd.func69, Tryd.ntmps69
    go_wp2_with (go_at_call 60; (with_reducible refine HN.out.mono ?_); rintro e w1 ⟨rfl, hd⟩; (have hr1 : w1.heap[w.heap.size]? = some (.cells #[.int .i64 0, .int .i64 0] 137 (0, 0)) := by obtain ⟨q, rfl⟩ := hd; exact HROW.out); (have d0 := cell_ro0 hr1); (have d1 := cell_ro1 hr1); (have g0 := frozen_of_row _ _ 0 _ _ hr1); (have g1 := frozen_of_row _ _ 1 _ _ hr1); (have HR1 := Lib.hid hr1); (have HB1 := Lib.hid (show Below w.heap.size w w1 by obtain ⟨q, rfl⟩ := hd; exact below_drewN HB0.out q)); clear hr1 hd)
    refine bodyPost_ret (results_cell_row rfl _ _ w.heap.size _ _ _ _ rfl (stor2 HR1.out) Tryd.underlying137 rfl HI.out) rfl ⟨rfl, ?_⟩
    exact (HB1.out.setCell (p := ⟨w.heap.size, 0, none⟩) (Nat.le_refl _) _).setCell (p := ⟨w.heap.size, 1, none⟩) (Nat.le_refl _) _
/-- The size of a vector, in the document's words. -/
theorem rsize_at (n m : Nat) (w : World) (h1 : n ≤ 67108864) (h3 : m ≤ n) :
    Calls Tryd.prog 20 #[.int .i64 (n : Nat), .int .i64 (m : Nat)] w fun e w' => e = .returned (.int .i64 (oE n m : Nat)) ∧ w = w' := by
  have h := rsize_yes (n : Nat) (m : Nat) w (by omega) (by omega) (by omega) (by omega)
  have e : sizeI (n : Nat) (m : Nat) = (oE n m : Nat) := by unfold sizeI oE oM oS oG; omega
  rwa [e] at h
end Go.Proofs.YtgajpekolamjbaaDoor
/- The document's Open. -/
namespace Go.Proofs.YtgajpekolamjbaaDoor
open Go.RowKit Go.Tk
theorem rdata_at (w : World) (a : Option Addr) (c : Nat) (l : List UInt8) (h : SlI .u8 w a l.length c (nums l)) (hN : f4 l 0 ≤ 67108864) (hE : 8 + (f4 l 0 + 7) / 8 ≤ l.length) :
    Calls Tryd.prog 70 #[.slice a l.length c] w fun e w' => ∃ b o cd, e = .returned (.slice (some ⟨b, o, none⟩) ((f4 l 0 + 7) / 8) cd) ∧ SlI .u8 w (some ⟨b, o, none⟩) ((f4 l 0 + 7) / 8) cd (nums (daB l (f4 l 0))) ∧ ∃ q, w' = w.drewN q := by
  obtain ⟨b, o, rfl, _⟩ := h.cell 0 (by omega)
  obtain ⟨ad, cd, e1, e2, h3⟩ := SlI.cut8 h hE
  have h2 := rdata_go w b o l.length c (f4 l 0) (f4 l 4) (8 + (f4 l 0 + 7) / 8) hN rfl hE h.le h.max (numbers_calls w _ c l h (by omega))
  obtain ⟨o', ho⟩ : ∃ o', ad = some ⟨b, o', none⟩ := by
    rw [← e1]
    split
    · exact ⟨o, rfl⟩
    · exact ⟨o + 8, rfl⟩
  have e3 : (if c = 8 then (some ⟨b, o, none⟩ : Option Addr) else some ⟨b, o + 8, none⟩) = some ⟨b, o', none⟩ := by rw [← ho, ← e1]; split <;> rfl
  rw [e3, e2, show 8 + (f4 l 0 + 7) / 8 - 8 = (f4 l 0 + 7) / 8 by omega] at h2
  rw [ho] at h3
  exact h2.mono fun e w' ⟨g1, g2⟩ => ⟨b, o', cd, g1, h3, g2⟩
theorem ret_fl {a b : Int} {c : Value} (h : a = b) : Ending.returned (.agg #[.int .i64 a, c]) = .returned (.agg #[.int .i64 b, c]) := by rw [h]
set_option maxRecDepth 100000 in
set_option maxHeartbeats 8000000 in
theorem rkopen_calls (w : World) (a : Option Addr) (c : Nat) (bs : List UInt8) (hs : SlI .u8 w a bs.length c (nums bs)) :
    Calls Tryd.prog 61 #[.slice a bs.length c] w fun e w' => ∃ x y : Nat, e = .returned (.agg #[.int .i64 (x : Nat), .int .i64 (y : Nat)]) ∧ OpenQ bs x y ∧ Below w.heap.size w w' := by
  have HI := Lib.hid Tryd.sizeFl
  have hrow : (w.alloc (.cells #[.int .i64 0, .int .i64 0] 137)).heap[w.heap.size]? = some (.cells #[.int .i64 0, .int .i64 0] 137 (0, 0)) := heap_alloc_new w _
  have hB0 := (Below.refl w.heap.size w).alloc (Nat.le_refl _) (.cells #[.int .i64 0, .int .i64 0] 137)
  have hhd := rhead_calls _ a c bs (hs.keep hB0)
  have HROW := Lib.hid hrow
  have HB0 := Lib.hid hB0
  have HS := Lib.hid hs
  have hfs : hdF bs = shF bs ∨ ((hdF bs).2 = 0 ∧ shF bs = if bs.length < oE (f4 bs 0) (f4 bs 4) then (bs.length, 10) else (0, 0)) := by
    unfold hdF shF
    by_cases h1 : bs.length < 8
    · exact .inl (by rw [if_pos h1, if_pos h1])
    rw [if_neg h1, if_neg h1]
    by_cases h2 : 67108864 < f4 bs 0
    · exact .inl (by rw [if_pos h2, if_pos h2])
    rw [if_neg h2, if_neg h2]
    by_cases h3 : f4 bs 0 < f4 bs 4
    · exact .inl (by rw [if_pos h3, if_pos h3])
    rw [if_neg h3, if_neg h3]
    exact .inr ⟨rfl, rfl⟩
  obtain ⟨x, hx⟩ : ∃ x, x = (hdF bs).1 := ⟨_, rfl⟩
  obtain ⟨y, hy⟩ : ∃ y, y = (hdF bs).2 := ⟨_, rfl⟩
  rw [← hx, ← hy] at hhd
  have HX := Lib.hid hx
  have HY := Lib.hid hy
  have HFS := Lib.hid hfs
  have HH := Lib.hid hhd
  clear hx hy hfs hhd hs hrow hB0
  go_enter Tryd.func61, Tryd.ntmps61
  go_upto_region 2 with (go_at_call 69; (with_reducible refine HH.out.mono ?_); rintro e w1 ⟨rfl, hb⟩; (have hr1 := (hb.block w.heap.size (lt_of_block HROW.out)).trans HROW.out); (have HR1 := Lib.hid hr1); (have HB1 := Lib.hid (HB0.out.trans (hb.mono HB0.out.size))); clear hr1 hb)
  have hlt1 := lt_of_block HR1.out
  have hr2 : (w1.alloc (.cells #[.int .i64 (x : Nat), .int .i64 (y : Nat)] 137)).heap[w.heap.size]? = some (.cells #[.int .i64 0, .int .i64 0] 137 (0, 0)) := (Below.heap_alloc _ _ _ hlt1).trans HR1.out
  have hr3 : (w1.alloc (.cells #[.int .i64 (x : Nat), .int .i64 (y : Nat)] 137)).heap[w1.heap.size]? = some (.cells #[.int .i64 (x : Nat), .int .i64 (y : Nat)] 137 (0, 0)) := heap_alloc_new w1 _
  have hb2 := HB1.out.alloc HB1.out.size (.cells #[.int .i64 (x : Nat), .int .i64 (y : Nat)] 137)
  have hne : w1.heap.size ≠ w.heap.size := by omega
  generalize w1.alloc (.cells #[.int .i64 (x : Nat), .int .i64 (y : Nat)] 137) = w2 at hr2 hr3 hb2 ⊢
  generalize w1.heap.size = g3 at hr3 hne ⊢
  have c1 := cell_ro1 hr3
  have c0 := cell_ro0 hr3
  have d0 := cell_ro0 hr2
  have d1 := cell_ro1 hr2
  have e0 := frozen_of_row _ _ 0 _ _ hr2
  have e1 := frozen_of_row _ _ 1 _ _ hr2
  have HR2 := Lib.hid hr2
  have HR3 := Lib.hid hr3
  have HB2 := Lib.hid hb2
  clear hr2 hr3 hb2 HR1 HB1 HROW HB0 HH
  by_cases hy0 : y ≠ 0
  · have hy1 : ((y : Int) != 0) = true := by simp; omega
    have hfv : hdF bs = shF bs := by
      rcases HFS.out with h | ⟨h, _⟩
      · exact h
      · exact absurd (HY.out.trans h) hy0
    have HRES := Lib.hid (show OpenQ bs x y from .inl ⟨by rw [← hfv, ← HY.out]; exact hy0, by rw [← hfv, HX.out], by rw [← hfv, HY.out]⟩)
    clear hfv
    go_wp2_with (refine wpList_load_row rfl 137 _ rfl g3 rfl _ #[.int .i64 (x : Nat), .int .i64 (y : Nat)] _ _ HR3.out Tryd.underlying137 rfl HI.out ?_)
    refine bodyPost_ret (results_cell_row rfl _ _ w.heap.size _ _ _ _ rfl (stor2 HR2.out) Tryd.underlying137 rfl HI.out) rfl ⟨x, y, rfl, HRES.out, ?_⟩
    exact (HB2.out.setCell (p := ⟨w.heap.size, 0, none⟩) (Nat.le_refl _) _).setCell (p := ⟨w.heap.size, 1, none⟩) (Nat.le_refl _) _
  have hy00 : y = 0 := by simpa using hy0
  subst hy00
  have hyz : (((0 : Nat) : Int) != 0) = false := by simp
  have hh : 8 ≤ bs.length ∧ f4 bs 0 ≤ 67108864 ∧ f4 bs 4 ≤ f4 bs 0 := by
    have h := HY.out
    unfold hdF at h
    split at h; · simp at h
    split at h; · simp at h
    split at h; · simp at h
    omega
  obtain ⟨h8, hN, hm⟩ := hh
  have hsF : shF bs = if bs.length < oE (f4 bs 0) (f4 bs 4) then (bs.length, 10) else (0, 0) := by
    unfold shF; rw [if_neg (by omega), if_neg (by omega), if_neg (by omega)]
  have hnum := numbers_calls w2 a c bs (HS.out.keep HB2.out) h8
  have hsz := fun w' => rsize_at (f4 bs 0) (f4 bs 4) w' hN hm
  have hEb : oE (f4 bs 0) (f4 bs 4) ≤ 1000000000 := by unfold oE oM oS oG; omega
  have hdat := fun w' h hE => rdata_at w' a c bs h hN hE
  have hdl := fun hE => da_len bs (f4 bs 0) hE
  have hQ : ∀ x y, OpenQ bs x y ↔ OpenQ bs x y := fun _ _ => Iff.rfl
  unfold OpenQ at hQ
  have hQ2 := fun x y => (hQ x y).1
  clear hQ
  have hQ2 : ∀ x y, _ → OpenQ bs x y := fun x y h => by unfold OpenQ; exact h
  obtain ⟨d, hd⟩ : ∃ d, d = daB bs (f4 bs 0) := ⟨_, rfl⟩
  rw [← hd] at hdl
  simp only [← hd] at hdat hQ2
  obtain ⟨n, hn⟩ : ∃ n, n = f4 bs 0 := ⟨_, rfl⟩
  obtain ⟨m, hmm⟩ : ∃ m, m = f4 bs 4 := ⟨_, rfl⟩
  rw [← hn, ← hmm] at hnum hsz hEb hsF hm
  rw [← hn] at hN hdat hdl
  simp only [← hn, ← hmm] at hQ2
  have hGE : 8 + (n + 7) / 8 ≤ oE n m := by unfold oE oM oS oG; omega
  have hGdef : oG n = 8 + (n + 7) / 8 := rfl
  have hSdef : oS n = oG n + 4 * ((n + 2048 - 1) / 2048) := rfl
  have hMdef : oM n = oS n + 2 * ((n + 256 - 1) / 256) := rfl
  have hup1 := fun w' => rup_calls (n : Nat) 2048 w' (by omega) (by omega) (by omega) (by omega)
  have hup2 := fun w' => rup_calls (n : Nat) 256 w' (by omega) (by omega) (by omega) (by omega)
  obtain ⟨u1, hu1⟩ : ∃ u, u = (n + 2048 - 1) / 2048 := ⟨_, rfl⟩
  obtain ⟨u2, hu2⟩ : ∃ u, u = (n + 256 - 1) / 256 := ⟨_, rfl⟩
  rw [← hu1] at hSdef
  rw [← hu2] at hMdef
  have hi1 : ((n : Int) + 2048 - 1) / 2048 = (u1 : Int) := by omega
  have hi2 : ((n : Int) + 256 - 1) / 256 = (u2 : Int) := by omega
  simp only [hi1] at hup1
  simp only [hi2] at hup2
  have hu1b : u1 ≤ 67108864 := by omega
  have hu2b : u2 ≤ 67108864 := by omega
  obtain ⟨k, hk⟩ : ∃ k, k = (n + 7) / 8 := ⟨_, rfl⟩
  rw [← hk] at hGE hGdef hdat hdl
  have hkb : k ≤ 67108864 := by omega
  obtain ⟨E, hE⟩ : ∃ E, E = oE n m := ⟨_, rfl⟩
  rw [← hE] at hsz hEb hsF hGE
  simp only [← hE] at hQ2
  have HNUM := Lib.hid hnum
  have HSZ := Lib.hid hsz
  have HQ := Lib.hid hQ2
  have HDAT := Lib.hid hdat
  have HDL := Lib.hid hdl
  have HSF := Lib.hid hsF
  have HU1 := Lib.hid hup1
  have HU2 := Lib.hid hup2
  have HG := Lib.hid hGdef
  have HSd := Lib.hid hSdef
  have HMd := Lib.hid hMdef
  have HK := Lib.hid hk
  have HEE := Lib.hid hE
  clear hnum hsz hQ2 hdat hdl hsF hup1 hup2 hGdef hSdef hMdef hi1 hi2 hu1 hu2 hd hn hmm hk hE HFS HX HY HR3 c0 hy0 d0 d1 e0 e1
  go_upto_region 6 with (first
    | (go_at_call 60; (with_reducible refine HNUM.out.mono ?_); rintro e w3 ⟨rfl, hd⟩; (have hr1 : w3.heap[w.heap.size]? = some (.cells #[.int .i64 0, .int .i64 0] 137 (0, 0)) := by obtain ⟨q, rfl⟩ := hd; exact HR2.out); (have HB3 := Lib.hid (show Below w.heap.size w w3 by obtain ⟨q, rfl⟩ := hd; exact below_drewN HB2.out q)); (have d0 := cell_ro0 hr1); (have d1 := cell_ro1 hr1); (have g0 := frozen_of_row _ _ 0 _ _ hr1); (have g1 := frozen_of_row _ _ 1 _ _ hr1); (have HR1 := Lib.hid hr1); clear hr1 hd)
    | (go_at_call 20; (with_reducible refine (HSZ.out _).mono ?_); rintro e w4 ⟨rfl, rfl⟩))
  clear c1 HR2 HB2 HNUM HSZ
  by_cases h1 : bs.length < E
  · have HRES := Lib.hid (HQ.out bs.length 10 (.inl (by rw [HSF.out, if_pos h1]; exact ⟨by simp, rfl, rfl⟩)))
    go_wp2_with fail
    refine bodyPost_ret (results_cell_row rfl _ _ w.heap.size _ _ _ _ rfl (stor2 HR1.out) Tryd.underlying137 rfl HI.out) rfl ⟨_, _, rfl, HRES.out, ?_⟩
    exact (HB3.out.setCell (p := ⟨w.heap.size, 0, none⟩) (Nat.le_refl _) _).setCell (p := ⟨w.heap.size, 1, none⟩) (Nat.le_refl _) _
  have hs0 : (shF bs).2 = 0 := by rw [HSF.out, if_neg h1]
  have HS0 := Lib.hid hs0
  have hE8 : 8 + k ≤ bs.length := by omega
  have hdt := HDAT.out w3 (HS.out.keep HB3.out) hE8
  have HDT := Lib.hid hdt
  have hdl := HDL.out hE8
  have HDD := Lib.hid hdl
  clear hdt hdl hs0 HDAT HDL
  go_upto_region 9 with (go_at_call 70; (with_reducible refine HDT.out.mono ?_); rintro e w4 ⟨bd, od, cd, rfl, hsd, hd⟩; (have HSD := Lib.hid (show SlI .u8 w4 (some ⟨bd, od, none⟩) k cd (nums d) by obtain ⟨q, rfl⟩ := hd; exact hsd.drewN q)); (have HR4 := Lib.hid (show w4.heap[w.heap.size]? = some (.cells #[.int .i64 0, .int .i64 0] 137 (0, 0)) by obtain ⟨q, rfl⟩ := hd; exact HR1.out)); (have HB4 := Lib.hid (show Below w.heap.size w w4 by obtain ⟨q, rfl⟩ := hd; exact below_drewN HB3.out q)); clear hsd hd)
  have hr1 := HR4.out
  clear d0 d1 g0 g1 HR1 HB3 HDT
  have d0 := cell_ro0 hr1
  have d1 := cell_ro1 hr1
  have g0 := frozen_of_row _ _ 0 _ _ hr1
  have g1 := frozen_of_row _ _ 1 _ _ hr1
  clear hr1
  have hpd := rpadded_calls w4 _ _ cd d n HSD.out (by rw [HDD.out, HK.out]) hN
  cases hpb : padB d n with
  | false =>
    rw [hpb] at hpd
    have HPD := Lib.hid hpd
    have HRES := Lib.hid (HQ.out (7 + k) 12 (.inr (.inl ⟨HS0.out, hpb, by rw [HG.out]; omega, rfl⟩)))
    clear hpd hpb
    go_wp2_with (go_at_call 71; (with_reducible refine HPD.out.mono ?_); rintro e w5 ⟨rfl, rfl⟩)
    refine bodyPost_ret (results_cell_row rfl _ _ w.heap.size _ _ _ _ rfl (stor2 HR4.out) Tryd.underlying137 rfl HI.out) rfl ⟨_, _, rfl, HRES.out, ?_⟩
    exact (HB4.out.setCell (p := ⟨w.heap.size, 0, none⟩) (Nat.le_refl _) _).setCell (p := ⟨w.heap.size, 1, none⟩) (Nat.le_refl _) _
  | true =>
    rw [hpb] at hpd
    have HPD := Lib.hid hpd
    have HPB := Lib.hid hpb
    have hct := rcount_calls w4 _ _ cd d n HSD.out hN (by rw [HDD.out, HK.out]; omega)
    obtain ⟨C, hC⟩ : ∃ C, C = cntB d n := ⟨_, rfl⟩
    rw [← hC] at hct
    have HCT := Lib.hid hct
    have HC := Lib.hid hC
    clear hpd hpb hct hC
    by_cases hCm : C = m
    · have e1 : ((C : Int) != (m : Int)) = false := by simp; omega
      have hcm2 : cntB d n = m := by rw [← HC.out]; exact hCm
      have HCM := Lib.hid hcm2
      clear hCm hcm2
      have hwh := whole_calls w4 _ _ cd d n HSD.out (fun e => by cases e) hN (by rw [HDD.out, HK.out]; omega) (by rw [HDD.out]; omega)
      have hwl := wh_len' d n
      obtain ⟨W, hW⟩ : ∃ W, W = whB d n := ⟨_, rfl⟩
      have hEn : enO d n = E := by
        obtain ⟨_, _, _, e4⟩ := o_eq (d := d) (N := n) (by rw [HDD.out, HK.out])
        rw [HCM.out] at e4
        rw [HEE.out, e4]
      rw [← hW, hEn] at hwl
      rw [← hW] at hwh
      have HWH := Lib.hid hwh
      have HWL := Lib.hid hwl
      have HW := Lib.hid hW
      clear hwh hwl hW hEn
      go_upto_region 18 with (first
        | (go_at_call 71; (with_reducible refine HPD.out.mono ?_); rintro e w5 ⟨rfl, rfl⟩)
        | (go_at_call 72; (with_reducible refine HCT.out.mono ?_); rintro e w5 ⟨rfl, rfl⟩)
        | (go_at_call 73; (with_reducible refine HWH.out.mono ?_); rintro e w6 ⟨vw, rfl, how, hbw⟩; obtain ⟨aw, cw, hvw, slw, _⟩ := how.sl; rw [nums_len, HWL.out] at hvw slw; subst hvw; (have HSW := Lib.hid slw); (have HR6 := Lib.hid ((hbw.block w.heap.size (lt_of_block HR4.out)).trans HR4.out)); (have HB6 := Lib.hid (HB4.out.trans (hbw.mono HB4.out.size))); clear how hbw slw)
        | (go_at_call 31; (with_reducible refine (HU1.out _).mono ?_); rintro e w7 ⟨rfl, rfl⟩)
        | (go_at_call 31; (with_reducible refine (HU2.out _).mono ?_); rintro e w7 ⟨rfl, rfl⟩))
      clear d0 d1 g0 g1 HPD HCT HWH HU1 HU2 HB4 HR4 HSF
      go_wp2_with fail
      go_loopw [13] (fun iv wr => ∃ i : Nat, iv = .int .i64 (i : Nat) ∧ 8 + k ≤ i ∧ i ≤ E ∧ (∀ j, 8 + k ≤ j → j < i → bs.getD j 0 = W.getD j 0) ∧ ∃ q, wr = w6.drewN q) (fun iv _ => E - (intOf iv).toNat)
      case atStart => exact ⟨8 + k, by simp, Nat.le_refl _, hGE, fun j h1 h2 => by omega, 0, rfl⟩
      case round =>
        obtain ⟨i, rfl, hik, hiE', hpre, q, hq⟩ := hrel
        have HPRE := Lib.hid hpre
        have HQQ := Lib.hid hq
        clear hpre hq
        by_cases hiE : i < E
        · have hsb := HS.out.keep HB6.out
          obtain ⟨b1, o1, rfl, hc1⟩ := byte_cell hsb i (by omega)
          obtain ⟨b2, o2, rfl, hc2⟩ := byte_cell HSW.out i hiE
          have hle1 := hsb.le
          have hle2 := HSW.out.le
          obtain ⟨y1, hy1⟩ : ∃ y, y = (bs.getD i 0).toNat := ⟨_, rfl⟩
          obtain ⟨y2, hy2⟩ : ∃ y, y = (W.getD i 0).toNat := ⟨_, rfl⟩
          rw [← hy1] at hc1
          rw [← hy2] at hc2
          have hd1 : wr.cell? ⟨b1, o1 + i, none⟩ = some (.int .u8 (y1 : Nat)) := by rw [HQQ.out]; exact hc1
          have hd2 : wr.cell? ⟨b2, o2 + i, none⟩ = some (.int .u8 (y2 : Nat)) := by rw [HQQ.out]; exact hc2
          have hiff : y1 = y2 ↔ bs.getD i 0 = W.getD i 0 := by rw [hy1, hy2]; exact UInt8.toNat_inj
          have HIFF := Lib.hid hiff
          clear hsb hc1 hc2 hy1 hy2 hiff
          by_cases hee : y1 = y2
          · subst hee
            have hnx : ∀ j, 8 + k ≤ j → j < i + 1 → bs.getD j 0 = W.getD j 0 := fun j h1 h2 => by
              by_cases hj : j = i
              · subst hj; exact HIFF.out.1 rfl
              · exact HPRE.out j h1 (by omega)
            have HNX := Lib.hid hnx
            clear hnx
            go_wp2_with fail
            go_quiet (fail)
            go_wp2_with fail
            go_roundw
            case rel => exact ⟨i + 1, by go_num, by omega, by omega, HNX.out, q + nq, by rw [HQQ.out]; simp [World.drewN, Nat.add_assoc]⟩
            case measure => simp [intOf]; omega
          · have e9 : ((y1 : Int) == (y2 : Int)) = false := by simp; omega
            have HNE := Lib.hid (show bs.getD i 0 ≠ W.getD i 0 from fun h => hee (HIFF.out.2 h))
            clear hee
            go_wp2_with fail
            go_quiet (fail)
            have hrq : (wr.drewN nq).heap[w.heap.size]? = some (.cells #[.int .i64 0, .int .i64 0] 137 (0, 0)) := by rw [HQQ.out]; exact HR6.out
            have hbq : Below w.heap.size w (wr.drewN nq) := by rw [HQQ.out]; exact below_drewN (below_drewN HB6.out q) nq
            clear hd1 hd2
            generalize wr.drewN nq = wq at hrq hbq ⊢
            have d0 := cell_ro0 hrq
            have d1 := cell_ro1 hrq
            have g0 := frozen_of_row _ _ 0 _ _ hrq
            have g1 := frozen_of_row _ _ 1 _ _ hrq
            have HRQ := Lib.hid hrq
            have HBQ := Lib.hid hbq
            clear hrq hbq
            by_cases c1 : i < 8 + k + 4 * u1
            · have hpl : (8 : Int) + (k : Int) + ((i : Int) - (8 + (k : Int))) / 4 * 4 = ((placeF n i : Nat) : Int) := by
                have h1 := HG.out
                have h2 := HSd.out
                have h3 := HMd.out
                unfold placeF
                rw [if_pos (by omega)]
                omega
              obtain ⟨P, hP⟩ : ∃ P, P = placeF n i := ⟨_, rfl⟩
              rw [← hP] at hpl
              have HPL := Lib.hid hpl
              have HRES := Lib.hid (HQ.out P 20 (.inr (.inr (.inr ⟨HS0.out, HPB.out, HCM.out, .inl ⟨i, by have := HG.out; omega, hiE, fun j h1 h2 => by rw [← HW.out]; exact HPRE.out j (by have := HG.out; omega) h2, by rw [← HW.out]; exact HNE.out, hP, rfl⟩⟩))))
              clear hpl hP
              go_wp2_with fail
              refine bodyPost_ret (results_cell_row rfl _ _ w.heap.size _ _ _ _ rfl (stor2 HRQ.out) Tryd.underlying137 rfl HI.out) rfl ⟨P, 20, ret_fl (by have := HPL.out; omega), HRES.out, ?_⟩
              exact (HBQ.out.setCell (p := ⟨w.heap.size, 0, none⟩) (Nat.le_refl _) _).setCell (p := ⟨w.heap.size, 1, none⟩) (Nat.le_refl _) _
            by_cases c2 : i < 8 + k + 4 * u1 + 2 * u2
            · have hpl : (8 : Int) + (k : Int) + 4 * (u1 : Int) + ((i : Int) - (8 + (k : Int) + 4 * (u1 : Int))) / 2 * 2 = ((placeF n i : Nat) : Int) := by
                have h1 := HG.out
                have h2 := HSd.out
                have h3 := HMd.out
                unfold placeF
                rw [if_neg (by omega), if_pos (by omega)]
                omega
              obtain ⟨P, hP⟩ : ∃ P, P = placeF n i := ⟨_, rfl⟩
              rw [← hP] at hpl
              have HPL := Lib.hid hpl
              have HRES := Lib.hid (HQ.out P 20 (.inr (.inr (.inr ⟨HS0.out, HPB.out, HCM.out, .inl ⟨i, by have := HG.out; omega, hiE, fun j h1 h2 => by rw [← HW.out]; exact HPRE.out j (by have := HG.out; omega) h2, by rw [← HW.out]; exact HNE.out, hP, rfl⟩⟩))))
              clear hpl hP
              go_wp2_with fail
              refine bodyPost_ret (results_cell_row rfl _ _ w.heap.size _ _ _ _ rfl (stor2 HRQ.out) Tryd.underlying137 rfl HI.out) rfl ⟨P, 20, ret_fl (by have := HPL.out; omega), HRES.out, ?_⟩
              exact (HBQ.out.setCell (p := ⟨w.heap.size, 0, none⟩) (Nat.le_refl _) _).setCell (p := ⟨w.heap.size, 1, none⟩) (Nat.le_refl _) _
            · have hpl : (8 : Int) + (k : Int) + 4 * (u1 : Int) + 2 * (u2 : Int) + ((i : Int) - (8 + (k : Int) + 4 * (u1 : Int) + 2 * (u2 : Int))) / 4 * 4 = ((placeF n i : Nat) : Int) := by
                have h1 := HG.out
                have h2 := HSd.out
                have h3 := HMd.out
                unfold placeF
                rw [if_neg (by omega), if_neg (by omega)]
                omega
              obtain ⟨P, hP⟩ : ∃ P, P = placeF n i := ⟨_, rfl⟩
              rw [← hP] at hpl
              have HPL := Lib.hid hpl
              have HRES := Lib.hid (HQ.out P 20 (.inr (.inr (.inr ⟨HS0.out, HPB.out, HCM.out, .inl ⟨i, by have := HG.out; omega, hiE, fun j h1 h2 => by rw [← HW.out]; exact HPRE.out j (by have := HG.out; omega) h2, by rw [← HW.out]; exact HNE.out, hP, rfl⟩⟩))))
              clear hpl hP
              go_wp2_with fail
              refine bodyPost_ret (results_cell_row rfl _ _ w.heap.size _ _ _ _ rfl (stor2 HRQ.out) Tryd.underlying137 rfl HI.out) rfl ⟨P, 20, ret_fl (by have := HPL.out; omega), HRES.out, ?_⟩
              exact (HBQ.out.setCell (p := ⟨w.heap.size, 0, none⟩) (Nat.le_refl _) _).setCell (p := ⟨w.heap.size, 1, none⟩) (Nat.le_refl _) _
        · obtain rfl : i = E := by omega
          have hrq : wr.heap[w.heap.size]? = some (.cells #[.int .i64 0, .int .i64 0] 137 (0, 0)) := by rw [HQQ.out]; exact HR6.out
          have hbq : Below w.heap.size w wr := by rw [HQQ.out]; exact below_drewN HB6.out q
          have d0 := cell_ro0 hrq
          have d1 := cell_ro1 hrq
          have g0 := frozen_of_row _ _ 0 _ _ hrq
          have g1 := frozen_of_row _ _ 1 _ _ hrq
          have HRQ := Lib.hid hrq
          have HBQ := Lib.hid hbq
          have hall : ∀ j, oG n ≤ j → j < i → bs.getD j 0 = (whB d n).getD j 0 := fun j h1 h2 => by rw [← HW.out]; exact HPRE.out j (by have := HG.out; omega) h2
          clear hrq hbq
          by_cases c3 : i < bs.length
          · have HRES := Lib.hid (HQ.out i 13 (.inr (.inr (.inr ⟨HS0.out, HPB.out, HCM.out, .inr ⟨hall, .inl ⟨c3, rfl, rfl⟩⟩⟩))))
            clear hall
            go_wp2_with fail
            refine bodyPost_ret (results_cell_row rfl _ _ w.heap.size _ _ _ _ rfl (stor2 HRQ.out) Tryd.underlying137 rfl HI.out) rfl ⟨_, _, rfl, HRES.out, ?_⟩
            exact (HBQ.out.setCell (p := ⟨w.heap.size, 0, none⟩) (Nat.le_refl _) _).setCell (p := ⟨w.heap.size, 1, none⟩) (Nat.le_refl _) _
          · have HRES := Lib.hid (HQ.out 0 0 (.inr (.inr (.inr ⟨HS0.out, HPB.out, HCM.out, .inr ⟨hall, .inr ⟨by omega, rfl, rfl⟩⟩⟩))))
            clear hall
            go_wp2_with fail
            refine bodyPost_ret (results_cell_row rfl _ _ w.heap.size _ _ _ _ rfl (stor2 HRQ.out) Tryd.underlying137 rfl HI.out) rfl ⟨0, 0, rfl, HRES.out, ?_⟩
            exact (HBQ.out.setCell (p := ⟨w.heap.size, 0, none⟩) (Nat.le_refl _) _).setCell (p := ⟨w.heap.size, 1, none⟩) (Nat.le_refl _) _
    · have e1 : ((C : Int) != (m : Int)) = true := by simp; omega
      have HRES := Lib.hid (HQ.out 4 20 (.inr (.inr (.inl ⟨HS0.out, HPB.out, by rw [← HC.out]; exact hCm, rfl, rfl⟩))))
      go_wp2_with (first
        | (go_at_call 71; (with_reducible refine HPD.out.mono ?_); rintro e w5 ⟨rfl, rfl⟩)
        | (go_at_call 72; (with_reducible refine HCT.out.mono ?_); rintro e w5 ⟨rfl, rfl⟩))
      refine bodyPost_ret (results_cell_row rfl _ _ w.heap.size _ _ _ _ rfl (stor2 HR4.out) Tryd.underlying137 rfl HI.out) rfl ⟨_, _, rfl, HRES.out, ?_⟩
      exact (HB4.out.setCell (p := ⟨w.heap.size, 0, none⟩) (Nat.le_refl _) _).setCell (p := ⟨w.heap.size, 1, none⟩) (Nat.le_refl _) _
end Go.Proofs.YtgajpekolamjbaaDoor
