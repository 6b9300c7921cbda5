/- TvO TdC, laid as one. -/
import Derived.Test.YtgajpekolamjbaaDoorTvE
set_option linter.unusedVariables false
set_option linter.unusedSimpArgs false
/- tree.Open of any bytes. -/
namespace Go.Proofs.YtgajpekolamjbaaDoor
open Go Go.RowKit Go.Tk
/-- What Open says: View, then the levels, one by one. -/
def opT (b : List UInt8) (xs ys : Nat → Nat) : Nat → Int × Nat
  | 0 => vwE b
  | k + 1 => if (opT b xs ys k).1 ≠ 0 then opT b xs ys k else lkE b k (xs k) (ys k)
/-- What is known of the levels' vectors. -/
def opU (b : List UInt8) (xs ys : Nat → Nat) : Prop := ∀ k, k < 4 → (opT b xs ys k).1 = 0 → lkU b k → OpenR (tB b k) (xs k) (ys k)
theorem op_ext {b : List UInt8} {xs ys xs' ys' : Nat → Nat} : ∀ {k : Nat}, (∀ i, i < k → xs i = xs' i ∧ ys i = ys' i) → opT b xs ys k = opT b xs' ys' k
  | 0, _ => rfl
  | k + 1, h => by
    have h1 := op_ext (b := b) (k := k) (fun i hi => h i (by omega))
    have h2 := h k (by omega)
    simp only [opT]
    rw [h1, h2.1, h2.2]
theorem op_stop {b : List UInt8} {xs ys : Nat → Nat} {k j : Nat} (h : (opT b xs ys k).1 ≠ 0) (hj : k ≤ j) : opT b xs ys j = opT b xs ys k := by
  induction j with
  | zero => have : k = 0 := by omega
            subst this; rfl
  | succ j ih =>
    by_cases hk : k = j + 1
    · subst hk; rfl
    · have := ih (by omega)
      simp only [opT]
      rw [this, if_pos h]
/-- A level more. -/
def upF (f : Nat → Nat) (k x : Nat) (i : Nat) : Nat := if i = k then x else f i
theorem upF_at (f : Nat → Nat) (k x : Nat) : upF f k x k = x := if_pos rfl
theorem upF_ne (f : Nat → Nat) {k x i : Nat} (h : i ≠ k) : upF f k x i = f i := if_neg h
theorem op_up {b : List UInt8} {xs ys : Nat → Nat} {k x y : Nat} (h : (opT b xs ys k).1 = 0) : opT b (upF xs k x) (upF ys k y) (k + 1) = lkE b k x y := by
  simp only [opT]
  rw [op_ext (xs' := xs) (ys' := ys) (fun i hi => ⟨upF_ne _ (by omega), upF_ne _ (by omega)⟩), if_neg (by simp [h]), upF_at, upF_at]
/-- The levels before k. -/
def opK (b : List UInt8) (xs ys : Nat → Nat) (k : Nat) : Prop := (opT b xs ys k).1 = 0 ∧ ∀ j, j < k → lkU b j → OpenR (tB b j) (xs j) (ys j)
theorem opK.next {b : List UInt8} {xs ys : Nat → Nat} {k x y : Nat} (h : opK b xs ys k) (hx : lkU b k → OpenR (tB b k) x y) (h0 : (lkE b k x y).1 = 0) : opK b (upF xs k x) (upF ys k y) (k + 1) := by
  refine ⟨by rw [op_up h.1]; exact h0, fun j hj hu => ?_⟩
  by_cases hk : j = k
  · subst hk; rw [upF_at, upF_at]; exact hx hu
  · rw [upF_ne _ hk, upF_ne _ hk]; exact h.2 j (by omega) hu
theorem opK.fin {b : List UInt8} {xs ys : Nat → Nat} (h : opK b xs ys 4) : opU b xs ys := fun k hk _ hu => h.2 k hk hu
theorem opK.bad {b : List UInt8} {xs ys : Nat → Nat} {k x y : Nat} (h : opK b xs ys k) (hx : lkU b k → OpenR (tB b k) x y) (h0 : (lkE b k x y).1 ≠ 0) (hk : k < 4) : opU b (upF xs k x) (upF ys k y) ∧ opT b (upF xs k x) (upF ys k y) 4 = lkE b k x y := by
  have h1 : opT b (upF xs k x) (upF ys k y) (k + 1) = lkE b k x y := op_up h.1
  have h2 := fun {j : Nat} (hj : k + 1 ≤ j) => op_stop (b := b) (xs := upF xs k x) (ys := upF ys k y) (k := k + 1) (j := j) (by rw [h1]; exact h0) hj
  refine ⟨fun j hj hz hu => ?_, by rw [h2 (by omega), h1]⟩
  by_cases hjk : j = k
  · subst hjk; rw [upF_at, upF_at]; exact hx hu
  by_cases hlt : j < k
  · rw [upF_ne _ hjk, upF_ne _ hjk]; exact h.2 j hlt hu
  · rw [h2 (by omega), h1] at hz; exact absurd hz h0
/-- What Open hands back. -/
def OpenO (w : World) (b : List UInt8) (a : Option Addr) (cap : Nat) (e : Ending) (w' : World) : Prop := ∃ xs ys, opU b xs ys ∧ OpenT w b a cap (opT b xs ys 4) e w'
set_option maxRecDepth 100000 in
set_option maxHeartbeats 3000000 in
theorem topen_calls (w : World) (b : List UInt8) (a : Option Addr) (cap : Nat) (hs : SlI .u8 w a b.length cap (nums b)) (hn : a = none → cap = 0) (ha : ∀ x, a = some x → x.block < w.heap.size) (hlen : b.length ≤ 140737488355328) :
    Calls Tryd.prog 8 #[.slice a b.length cap] w (OpenO w b a cap) := by
  have hv := tview_calls w a cap b hs hn ha hlen
  have HV := Lib.hid hv
  clear hv hs hn ha
  go_enter Tryd.func8, Tryd.ntmps8
  by_cases he : (vwE b).1 = 0
  rotate_left
  · have HE := Lib.hid he
    clear he
    go_wp2_with (go_at_call 5; (with_reducible refine HV.out.mono ?_); rintro e w1 ⟨hb1, h1⟩; obtain ⟨v, rfl, hev⟩ := h1.elim (fun h => h.2) (fun h => absurd h.1 HE.out); obtain ⟨b9, rfl⟩ := hev.some HE.out; (have HB1 := Lib.hid hb1); (have HEV := Lib.hid hev); clear h1 hb1 hev)
    go_ret2
    refine ⟨fun _ => 0, fun _ => 0, fun k _ hz _ => ?_, HB1.out, .inl ⟨?_, _, rfl, ?_⟩⟩
    · have h := op_stop (b := b) (xs := fun _ => 0) (ys := fun _ => 0) (k := 0) (j := k) HE.out (Nat.zero_le _)
      rw [h] at hz
      exact absurd hz HE.out
    · rw [op_stop (k := 0) HE.out (Nat.zero_le _)]; exact HE.out
    · rw [op_stop (k := 0) HE.out (Nat.zero_le _)]; exact HEV.out
  · have HE := Lib.hid he
    clear he
    go_wp2_with (go_at_call 5; (with_reducible refine HV.out.mono ?_); rintro e w1 ⟨hb1, h1⟩; obtain ⟨gd, vp, hgd, rfl, hT⟩ := h1.elim (fun h => absurd HE.out h.1) (fun h => h.2); (have HB1 := Lib.hid hb1); (have HT := Lib.hid hT); (have hz1 := hb1.size); clear h1 hb1 hT)
    go_loopw [16] (fun iv wr => ∃ (k : Nat) (xs ys : Nat → Nat), iv = .int .i64 (k : Nat) ∧ k ≤ 4 ∧ opK b xs ys k ∧ Below w1.heap.size w1 wr) (fun iv _ => 4 - (intOf iv).toNat)
    case atStart => exact ⟨0, fun _ => 0, fun _ => 0, rfl, by omega, ⟨HE.out, fun j hj => absurd hj (by omega)⟩, Below.refl _ _⟩
    case round =>
      rename World => wr
      obtain ⟨k, xs, ys, rfl, hk, hK, hbr⟩ := hrel
      have HK := Lib.hid hK
      have HBR := Lib.hid hbr
      have hzr := hbr.size
      clear hK hbr
      by_cases hk4 : k < 4
      rotate_left
      · obtain rfl : k = 4 := by omega
        go_wp2_with fail
        go_ret2
        exact ⟨xs, ys, HK.out.fin, HB1.out.trans (HBR.out.mono hz1), .inr ⟨HK.out.1, gd, vp, hgd, rfl, HT.out.below HBR.out⟩⟩
      · have hlk := look_calls wr gd b a cap vp (HT.out.below HBR.out) hlen k hk4 (k * 8) rfl
        have HL := Lib.hid hlk
        clear hlk
        go_upto_region 8 with (go_at_call 22; (with_reducible refine HL.out.mono ?_); rintro e w2 ⟨hb2, x, y, v, hx, rfl, hev⟩; (have HB2 := Lib.hid (HBR.out.trans (hb2.mono hzr))); (have HX := Lib.hid hx); (have HEV := Lib.hid hev); clear hb2 hx hev)
        by_cases h0 : (lkE b k x y).1 = 0
        · have hv : v = .nilIface := by have := HEV.out; rw [h0] at this; exact this.none
          subst hv
          have HKN := Lib.hid (HK.out.next HX.out h0)
          clear h0
          go_wp2_with fail
          exact ⟨⟨k + 1, _, _, by go_num, by omega, HKN.out, HB2.out⟩, by simp [intOf]; omega⟩
        · obtain ⟨b9, rfl⟩ := HEV.out.some h0
          have HBAD := Lib.hid (HK.out.bad HX.out h0 hk4)
          have H0 := Lib.hid h0
          clear h0
          go_wp2_with fail
          go_ret2
          exact ⟨_, _, HBAD.out.1, HB1.out.trans (HB2.out.mono hz1), .inl ⟨by rw [HBAD.out.2]; exact H0.out, _, rfl, by rw [HBAD.out.2]; exact HEV.out⟩⟩
end Go.Proofs.YtgajpekolamjbaaDoor
/- The document's View: the walk. -/
namespace Go.Proofs.YtgajpekolamjbaaDoor
open Go Go.RowKit Go.Tk
set_option maxRecDepth 100000 in
set_option maxHeartbeats 8000000 in
theorem rview18_calls (w : World) (a : Option Addr) (c : Nat) (b : List UInt8) (hs : SlI .u8 w a b.length c (nums b)) (ha : ∀ x, a = some x → x.block < w.heap.size) (hlen : b.length ≤ 140737488355328) :
    Calls Tryd.prog 6 #[.slice a b.length c] w (RvwR w b) := by
  have hle := hs.le
  have hmx := hs.max
  have hR0 : RvS w ((w.alloc (.cells (rowC 13 hz) 31)).alloc (.cells #[.int .i64 0, .int .i64 0] 33)) w.heap.size := by
    refine ⟨(Below.heap_alloc _ _ _ (by simp)).trans (heap_alloc_new _ _), ?_, ((Below.refl _ w).alloc (Nat.le_refl _) _).alloc (by simp) _, Nat.le_refl _⟩
    have := heap_alloc_new (w.alloc (.cells (rowC 13 hz) 31)) (.cells #[.int .i64 0, .int .i64 0] 33)
    simpa using this
  have hz1 : ((w.alloc (.cells (rowC 13 hz) 31)).alloc (.cells #[.int .i64 0, .int .i64 0] 33)).heap.size = w.heap.size + 2 := by simp
  have HI := Lib.hid Tryd.sizeHdT
  have HI2 := Lib.hid Tryd.sizeFlT
  have HS := Lib.hid hs
  have HA := Lib.hid ha
  clear hs ha
  rw [hz_row] at hR0 hz1
  go_enter Tryd.func6, Tryd.ntmps6
  go_upto_region 1 with fail
  generalize (w.alloc (.cells #[.int .i64 0, .int .i64 0, .int .i64 0, .int .i64 0, .int .i64 0, .int .i64 0, .int .i64 0, .int .i64 0, .int .i64 0, .int .i64 0, .int .i64 0, .int .i64 0, .int .i64 0] 31)).alloc (.cells #[.int .i64 0, .int .i64 0] 33) = w1 at hR0 hz1 ⊢
  obtain ⟨g2, hg2⟩ : ∃ g2, g2 = w.heap.size := ⟨_, rfl⟩
  rw [← hg2] at hR0 hz1 ⊢
  have HG2 := Lib.hid hg2
  have HR0 := Lib.hid hR0
  clear hR0 hg2
  go_upto_region 2 with fail
  have hrs2 := HR0.out.below ((Below.refl w1.heap.size w1).alloc (Nat.le_refl _) (.cells #[.int .i64 0, .int .i64 0, .int .i64 0, .int .i64 0, .int .i64 0, .int .i64 0, .int .i64 0, .int .i64 0, .int .i64 0, .int .i64 0, .int .i64 0, .int .i64 0, .int .i64 0] 31))
  have hrow2 : RowC (w1.alloc (.cells #[.int .i64 0, .int .i64 0, .int .i64 0, .int .i64 0, .int .i64 0, .int .i64 0, .int .i64 0, .int .i64 0, .int .i64 0, .int .i64 0, .int .i64 0, .int .i64 0, .int .i64 0] 31)) (g2 + 2) 13 31 hz := by
    have := heap_alloc_new w1 (.cells #[.int .i64 0, .int .i64 0, .int .i64 0, .int .i64 0, .int .i64 0, .int .i64 0, .int .i64 0, .int .i64 0, .int .i64 0, .int .i64 0, .int .i64 0, .int .i64 0, .int .i64 0] 31)
    rw [hz1] at this
    exact this
  generalize w1.alloc (.cells #[.int .i64 0, .int .i64 0, .int .i64 0, .int .i64 0, .int .i64 0, .int .i64 0, .int .i64 0, .int .i64 0, .int .i64 0, .int .i64 0, .int .i64 0, .int .i64 0, .int .i64 0] 31) = w2 at hrs2 hrow2 ⊢
  generalize hgh : g2 + 2 = gh at hrow2 ⊢
  have hne : gh ≠ g2 := by omega
  have hne1 : gh ≠ g2 + 1 := by omega
  have hgw : w.heap.size ≤ gh := by have := HG2.out; omega
  have HRS2 := Lib.hid hrs2
  have HROW2 := Lib.hid hrow2
  have HNE := Lib.hid hne
  have HNE1 := Lib.hid hne1
  have HGW := Lib.hid hgw
  have HI13 := Lib.hid (fun cs : Nat → Value => (show (Tryd.prog.info? 31).map (·.size) = some (rowC 13 cs).size by rw [rowC_size]; exact HI.out))
  have hcnt := rcounts_calls w2 a c b (HS.out.keep hrs2.bl) gh hz hrow2 (fun i hi => ⟨0, rfl⟩) (fun x hx => by have := HA.out x hx; omega) hlen
  obtain ⟨er, her⟩ : ∃ er, er = (cnE b 4).1 := ⟨_, rfl⟩
  obtain ⟨y, hy⟩ : ∃ y, y = (cnE b 4).2 := ⟨_, rfl⟩
  have hcnt2 : Calls Tryd.prog 19 #[.slice a b.length c, .pointer (some ⟨gh, 0, none⟩)] w2 fun e w' => Kept (fun g => g = gh) w2 w' ∧ ∃ (x : Int) (k : Nat), k ≤ 4 ∧ e = .returned (.tuple #[.int .i64 x, .agg #[.int .i64 (y : Nat), .int .i64 er]]) ∧ RowC w' gh 13 31 (hcN b k hz) ∧ (er = 0 → x = (tPl b 4 : Nat) ∧ k = 4) := by
    rw [her, hy]; exact hcnt
  have HCNT := Lib.hid hcnt2
  have HER := Lib.hid her
  have HY := Lib.hid hy
  clear hcnt hcnt2 her hy hrs2 hrow2 hne hne1 hgw hgh hz1 HR0
  go_upto_region 3 with (go_at_call 19; (with_reducible refine HCNT.out.mono ?_); rintro e w3 ⟨hk3, x3, k3, hk4, rfl, hr3, hx3⟩; (have HK3 := Lib.hid hk3); (have HR3 := Lib.hid hr3); (have HX3 := Lib.hid hx3); clear hk3 hr3 hx3)
  have hrs3 := HRS2.out.kept HK3.out (fun e => HNE.out e.symm) (fun e => HNE1.out e.symm) (fun j hj => by rw [hj]; exact HGW.out)
  have hb4 := (Below.refl w3.heap.size w3).alloc (Nat.le_refl _) (.cells #[.int .i64 (y : Nat), .int .i64 er] 33)
  have hrs4 := hrs3.below hb4
  have hrow4 := HR3.out.below hb4
  have hr6 := heap_alloc_new w3 (.cells #[.int .i64 (y : Nat), .int .i64 er] 33)
  have hg6 : g2 ≠ w3.heap.size ∧ g2 + 1 ≠ w3.heap.size := ⟨by have := hrs3.r2.lt; omega, by have := lt_of_block hrs3.r3; omega⟩
  generalize w3.alloc (.cells #[.int .i64 (y : Nat), .int .i64 er] 33) = w4 at hrs4 hrow4 hr6 ⊢
  generalize w3.heap.size = g6 at hr6 hg6 ⊢
  have HRS4 := Lib.hid hrs4
  have HROW4 := Lib.hid hrow4
  have HR6 := Lib.hid hr6
  have HG6 := Lib.hid hg6
  have m1 : w4.cell? ⟨g6, 1, none⟩ = some (.int .i64 er) := cellT1 hr6
  clear hrs3 hb4 hrs4 hrow4 hr6 hg6 HRS2 HROW2 HK3 HR3 HCNT
  have hci : ∀ k i, i < 13 → ∃ x, hcN b k hz i = .int .i64 x := fun k i hi => by unfold hcN; split; exact ⟨_, rfl⟩; exact ⟨0, rfl⟩
  have HCI := Lib.hid hci
  clear hci
  by_cases he : er ≠ 0
  · have e1 : (er != 0) = true := by simp [he]
    have hev : vwE b = (er, y) := by
      have h0 : (lvE b 0).1 ≠ 0 := by show (cnE b 4).1 ≠ 0; rw [← HER.out]; exact he
      have h4 := lv_stop b (k := 0) (j := 4) (by omega) h0
      unfold vwE
      rw [if_pos (by rw [h4]; exact h0), h4]
      show cnE b 4 = _
      rw [HER.out, HY.out]
    have HEV := Lib.hid hev
    have HE := Lib.hid he
    clear hev he
    go_upto_region 4 with fail
    have hrsD : RvS w w4.drew g2 := HRS4.out.below (Below.drew (Below.refl _ _))
    obtain ⟨n1, n2, n3⟩ : (((w4.drew.setRow g2 (rowC 13 (hcN b k3 hz))).setRow (g2 + 1) #[.int .i64 (y : Nat), .int .i64 er]).heap[g2]? = some (.cells (rowC 13 (hcN b k3 hz)) 31 (0, 0))) ∧ (((w4.drew.setRow g2 (rowC 13 (hcN b k3 hz))).setRow (g2 + 1) #[.int .i64 (y : Nat), .int .i64 er]).heap[g2 + 1]? = some (.cells #[.int .i64 (y : Nat), .int .i64 er] 33 (0, 0))) ∧ Below w.heap.size w ((w4.drew.setRow g2 (rowC 13 (hcN b k3 hz))).setRow (g2 + 1) #[.int .i64 (y : Nat), .int .i64 er]) := by
      have h3 : (w4.drew.setRow g2 (rowC 13 (hcN b k3 hz))).heap[g2 + 1]? = some (.cells #[.int .i64 0, .int .i64 0] 33 (0, 0)) := (setRow_other _ _ _ _ (by omega)).trans hrsD.r3
      refine ⟨(setRow_other _ _ _ _ (by omega)).trans (setRow_heap _ g2 _ (rowC 13 (hcN b k3 hz)) _ _ hrsD.r2), setRow_heap _ (g2 + 1) _ _ _ _ h3, below_setRow (below_setRow hrsD.bl hrsD.gb _) (by have := hrsD.gb; omega) _⟩
    refine wh_startN (S := fun W => W.heap[gh]? = some (.cells (rowC 13 (hcN b k3 hz)) 31 (0, 0)) ∧ W.heap[g6]? = some (.cells #[.int .i64 (y : Nat), .int .i64 er] 33 (0, 0))) 4 rfl (by kernel_rfl) ?_
    refine wh_takeD 0 17 (.agg (rowC 13 (hcN b k3 hz))) rfl rfl rfl (by kernel_rfl) (by kernel_rfl) (by kernel_rfl) (fun _ _ _ _ h => h) ⟨HROW4.out, HR6.out⟩ (fun w' h => by exact run_load_row 31 _ rfl gh rfl 31 _ _ _ w' h.1 Tryd.underlying31 rfl (HI13.out _)) ?_
    refine wh_takeD 1 18 (.agg #[.int .i64 (y : Nat), .int .i64 er]) rfl rfl rfl (by kernel_rfl) (by kernel_rfl) (by kernel_rfl) (fun _ _ _ _ h => h) ⟨HROW4.out, HR6.out⟩ (fun w' h => by exact run_load_row 33 _ rfl g6 rfl 33 _ _ _ w' h.2 Tryd.underlying33 rfl HI2.out) ?_
    refine wh_skipD 2 (w' := w4.drew.setRow g2 (rowC 13 (hcN b k3 hz))) rfl rfl rfl (by kernel_rfl) (by exact run_store_rowO 31 _ _ rfl g2 _ (by simp [go_sem]) (by simp [go_sem]) 31 _ hrsD.r2 (HI13.out _) (by rw [rowC_size, rowC_size]) (rowC_ints (HCI.out k3))) ⟨(setRow_other _ _ _ _ HNE.out).trans HROW4.out, (setRow_other _ _ _ _ (fun e => HG6.out.1 e.symm)).trans HR6.out⟩ ?_
    refine wh_skipD 3 (w' := (w4.drew.setRow g2 (rowC 13 (hcN b k3 hz))).setRow (g2 + 1) #[.int .i64 (y : Nat), .int .i64 er]) rfl rfl rfl (by kernel_rfl) (by exact run_store_rowO 33 _ _ rfl (g2 + 1) _ (by simp [go_sem]) (by simp [go_sem]) 33 _ ((setRow_other _ _ _ _ (by omega)).trans hrsD.r3) HI2.out rfl (by simp [Value.oneCell'])) ⟨(setRow_other _ _ _ _ HNE1.out).trans ((setRow_other _ _ _ _ HNE.out).trans HROW4.out), (setRow_other _ _ _ _ (fun e => HG6.out.2 e.symm)).trans ((setRow_other _ _ _ _ (fun e => HG6.out.1 e.symm)).trans HR6.out)⟩ ?_
    refine wpAnyH_done (by kernel_rfl) ?_ 0
    generalize (w4.drew.setRow g2 (rowC 13 (hcN b k3 hz))).setRow (g2 + 1) #[.int .i64 (y : Nat), .int .i64 er] = w5 at n1 n2 n3 ⊢
    have HN1 := Lib.hid n1
    have HN2 := Lib.hid n2
    have HN3 := Lib.hid n3
    clear n1 n2 n3 hrsD m1
    simp only [go_sem, List.setIfInBounds_toArray, List.set_cons_succ, List.set_cons_zero]
    go_wp2
    refine bodyPost_ret (results_cc rfl _ _ g2 (g2 + 1) _ _ _ _ _ _ _ _ rfl HN1.out rfl HN2.out Tryd.underlying31 rfl (HI13.out (hcN b k3 hz)) Tryd.underlying33 rfl HI2.out) rfl ⟨HN3.out, hcN b k3 hz, ?_, HCI.out k3, fun h => absurd h (by rw [HEV.out]; exact HE.out)⟩
    rw [HEV.out]; rfl
  obtain rfl : er = 0 := Classical.not_not.1 he
  obtain ⟨rfl, rfl⟩ := HX3.out rfl
  have hC : ∀ k, k < 4 → CnOk b k := (cn_ok HER.out.symm).2
  have hl0 : (lvE b 0).1 = 0 := HER.out.symm
  have HC := Lib.hid hC
  have HL0 := Lib.hid hl0
  have hrow5 : RowC w4 gh 13 31 (hvN b 0) := rowC_to HROW4.out (fun i hi => hvN_zero b i hi)
  have HROW5 := Lib.hid hrow5
  have hA0 : tPl b 4 = tA b 0 := rfl
  rw [hA0]
  clear hC hl0 hrow5 hA0 HROW4 HR6 HX3 HCI he HER HY HG6
  go_wp2_with fail
  rename World => wl
  go_loopw [5, 7] (fun av iv wr => ∃ k : Nat, av = .int .i64 (tA b k : Nat) ∧ iv = .int .i64 (k : Nat) ∧ k ≤ 4 ∧ (lvE b k).1 = 0 ∧ RvS w wr g2 ∧ RowC wr gh 13 31 (hvN b k)) (fun _ iv _ => 4 - (intOf iv).toNat)
  case atStart => exact ⟨0, rfl, rfl, by omega, HL0.out, HRS4.out, HROW5.out⟩
  case round =>
    rename World => wr
    obtain ⟨k, rfl, rfl, hk, hlv, hrs, hrow⟩ := hrel
    have HLV := Lib.hid hlv
    have HRS := Lib.hid hrs
    have HROW := Lib.hid hrow
    clear hlv hrs hrow HRS4 HROW5 HL0 m1
    by_cases hk4 : k < 4
    · have hst : (lE b k).1 ≠ 0 → vwE b = lE b k := fun h => by
        have e : lvE b (k + 1) = lE b k := by simp only [lvE]; rw [if_neg (by rw [HLV.out]; simp)]
        have h4 := lv_stop b (k := k + 1) (j := 4) (by omega) (by rw [e]; exact h)
        unfold vwE
        rw [if_pos (by rw [h4, e]; exact h), h4, e]
      have hgo : (lE b k).1 = 0 → (lvE b (k + 1)).1 = 0 := fun h => by simp only [lvE]; rw [if_neg (by rw [HLV.out]; simp)]; exact h
      have HST := Lib.hid hst
      have HGO := Lib.hid hgo
      clear hst hgo
      obtain ⟨A, hAe⟩ : ∃ A, A = tA b k := ⟨_, rfl⟩
      have HAE := Lib.hid hAe
      rw [← hAe]
      have hlE : lE b k = if b.length ≤ A then (10, b.length) else if 23 < bAt b A then (14, A) else if b.length < tA b (k + 1) then (10, b.length) else (0, 0) := by unfold lE tW; rw [← hAe]
      have HLE := Lib.hid hlE
      clear hAe hlE
      by_cases h1 : b.length ≤ A
      · have hlE : lE b k = (10, b.length) := by rw [HLE.out, if_pos h1]
        have HEV := Lib.hid (show vwE b = (10, b.length) by rw [HST.out (by rw [hlE]; simp), hlE])
        have d1 : decide ((b.length : Int) ≤ (A : Int)) = true := decide_eq_true (by omega)
        have d1' : decide (b.length ≤ A) = true := decide_eq_true h1
        clear hlE
        obtain ⟨n1, n2, n3⟩ := (HRS.out).sto (hvN b k) (.int .i64 (b.length : Nat)) (.int .i64 10)
        have HN1 := Lib.hid n1
        have HN2 := Lib.hid n2
        have HN3 := Lib.hid n3
        obtain ⟨c0, c1, f0, f1⟩ := (HRS.out).fs (hvN b k)
        clear n1 n2 n3
        go_wp2_with (first
          | (refine wpList_load_row rfl 31 _ rfl gh rfl _ (rowC 13 (hvN b k)) _ _ HROW.out Tryd.underlying31 rfl (HI13.out (hvN b k)) ?_)
          | (refine wpList_store_row rfl 31 _ _ rfl g2 (rowC 13 (hvN b k)) rfl rfl _ _ (HRS.out).r2 (HI13.out (hvN b k)) (by rw [rowC_size, rowC_size]) (rowC_ints (fun i hi => hvN_int b k i hi)) ?_))
        refine bodyPost_ret (results_cc rfl _ _ g2 (g2 + 1) _ _ _ _ _ _ _ _ rfl HN1.out rfl HN2.out Tryd.underlying31 rfl (HI13.out (hvN b k)) Tryd.underlying33 rfl HI2.out) rfl ⟨HN3.out, hvN b k, ?_, fun i hi => hvN_int b k i hi, fun h => absurd h (by rw [HEV.out]; simp)⟩
        rw [HEV.out]; rfl
      have d1 : decide ((b.length : Int) ≤ (A : Int)) = false := decide_eq_false (by omega)
      have d1' : decide (b.length ≤ A) = false := decide_eq_false h1
      have hAl : A < b.length := by omega
      have hsl := HS.out.keep HRS.out.bl
      obtain ⟨bb, bo, hab, hcb⟩ := hsl.cell A hAl
      subst hab
      obtain ⟨wd, hwd⟩ : ∃ wd, wd = bAt b A := ⟨_, rfl⟩
      have hwd2 : (nums b).getD A 0 = (wd : Int) := by rw [hwd]; unfold bAt nums; simp [hAl]
      rw [hwd2] at hcb
      have hwl : wd < 256 := by rw [hwd]; exact UInt8.toNat_lt _
      have HWD := Lib.hid hwd
      rw [← hwd] at HLE
      have HCB := Lib.hid hcb
      clear hsl hwd hwd2
      by_cases h2 : 23 < wd
      · have hlE : lE b k = (14, A) := by rw [HLE.out, if_neg h1, if_pos h2]
        have HEV := Lib.hid (show vwE b = (14, A) by rw [HST.out (by rw [hlE]; simp), hlE])
        have d2 : decide ((23 : Int) < (wd : Int)) = true := decide_eq_true (by omega)
        have d2' : decide (23 < wd) = true := decide_eq_true h2
        clear hlE
        obtain ⟨n1, n2, n3⟩ := (HRS.out).sto (hvN b k) (.int .i64 (A : Nat)) (.int .i64 14)
        have HN1 := Lib.hid n1
        have HN2 := Lib.hid n2
        have HN3 := Lib.hid n3
        obtain ⟨c0, c1, f0, f1⟩ := (HRS.out).fs (hvN b k)
        clear n1 n2 n3
        go_wp2_with (first
          | (refine wpList_load_row rfl 31 _ rfl gh rfl _ (rowC 13 (hvN b k)) _ _ HROW.out Tryd.underlying31 rfl (HI13.out (hvN b k)) ?_)
          | (refine wpList_store_row rfl 31 _ _ rfl g2 (rowC 13 (hvN b k)) rfl rfl _ _ (HRS.out).r2 (HI13.out (hvN b k)) (by rw [rowC_size, rowC_size]) (rowC_ints (fun i hi => hvN_int b k i hi)) ?_))
        refine bodyPost_ret (results_cc rfl _ _ g2 (g2 + 1) _ _ _ _ _ _ _ _ rfl HN1.out rfl HN2.out Tryd.underlying31 rfl (HI13.out (hvN b k)) Tryd.underlying33 rfl HI2.out) rfl ⟨HN3.out, hvN b k, ?_, fun i hi => hvN_int b k i hi, fun h => absurd h (by rw [HEV.out]; simp)⟩
        rw [HEV.out]; rfl
      have d2 : decide ((23 : Int) < (wd : Int)) = false := decide_eq_false (by omega)
      have d2' : decide (23 < wd) = false := decide_eq_false h2
      -- Width[k] = at
      obtain ⟨x0, hx0⟩ := hvN_int b k (4 + k) (by omega)
      have c0 := HROW.out.cell (i := 4 + k) (by omega)
      rw [hx0] at c0
      have f0 := HROW.out.frozen (4 + k)
      have hr6 := HROW.out.set (4 + k) (.int .i64 (A : Nat))
      have k6 : Kept (fun g => g = gh) wr (wr.setCell ⟨gh, 4 + k, none⟩ (.int .i64 (A : Nat))) := (Kept.refl (fun g => g = gh) wr).setCell (p := ⟨gh, 4 + k, none⟩) (.inl rfl) _
      have hrs6 := HRS.out.kept k6 (fun e => HNE.out e.symm) (fun e => HNE1.out e.symm) (fun j hj => by rw [hj]; exact HGW.out)
      have hcb6 : (wr.setCell ⟨gh, 4 + k, none⟩ (.int .i64 (A : Nat))).cell? ⟨bb, bo + A, none⟩ = some (.int .u8 (wd : Nat)) := k6.cell HCB.out (fun e => by have e1 : bb = gh := e; have e2 : bb < w.heap.size := HA.out _ rfl; have e3 := HGW.out; omega)
      clear hx0
      go_upto_region 13 with fail
      generalize wr.setCell ⟨gh, 4 + k, none⟩ (.int .i64 (A : Nat)) = w6 at hr6 k6 hrs6 hcb6 ⊢
      obtain ⟨nk, hnk⟩ : ∃ nk, nk = tN b k := ⟨_, rfl⟩
      have cN : w6.cell? ⟨gh, k, none⟩ = some (.int .i64 (nk : Nat)) := by
        rw [hr6.cell (by omega), setF_other _ _ (by omega), hnk]
        unfold hvN; rw [if_pos hk4]
      have hnk2 : nk ≤ 1048576 := by rw [hnk]; exact (HC.out k hk4).le
      obtain ⟨pr, hpr⟩ : ∃ pr, pr = nk * wd := ⟨_, rfl⟩
      have hpr1 : (nk : Int) * (wd : Int) = (pr : Int) := by rw [hpr]; push_cast; rfl
      have hprb : pr ≤ 1048576 * 23 := by rw [hpr]; exact Nat.mul_le_mul hnk2 (by omega)
      obtain ⟨q, hq⟩ : ∃ q, q = (pr + 7) / 8 := ⟨_, rfl⟩
      have hq1 : ((pr : Int) + 7) / 8 = (q : Int) := by omega
      have hqb : q ≤ 3014657 := by omega
      have hE : tE b k = A + 1 + q := by unfold tE tW; rw [← HAE.out, ← HWD.out, ← hnk, ← hpr, ← hq]
      have HR6 := Lib.hid hr6
      have HRS6 := Lib.hid hrs6
      have HE := Lib.hid hE
      have HNK := Lib.hid hnk
      clear c0 f0 hr6 hrs6 k6 hE hnk hpr hq hcb HCB
      go_quiet (fail)
      have HR7 := Lib.hid (show RowC (w6.drewN nq) gh 13 31 _ from HR6.out)
      have HRS7 := Lib.hid (HRS6.out.below (below_drewN (Below.refl _ _) nq))
      clear cN hcb6 HR6 HRS6 hpr1 hq1
      generalize w6.drewN nq = w7 at HR7 HRS7 ⊢
      obtain ⟨E, hEe⟩ : ∃ E, E = A + 1 + q := ⟨_, rfl⟩
      have hEi : (A : Int) + 1 + (q : Int) = (E : Int) := by omega
      have hEb : E ≤ 140737491400000 := by omega
      rw [← hEe] at HE
      have hEs : ((A + 1 + q : Nat) : Int) = (E : Int) := by omega
      simp only [hEi, hEs]
      clear hEi hEs hEe
      -- Vector[k] = at
      obtain ⟨x1, hx1⟩ := hvN_int b k (8 + k) (by omega)
      have c0 := HR7.out.cell (i := 8 + k) (by omega)
      rw [setF_other _ _ (by omega), hx1] at c0
      have f0 := HR7.out.frozen (8 + k)
      have hr8 := HR7.out.set (8 + k) (.int .i64 (E : Nat))
      have k8 : Kept (fun g => g = gh) w7 (w7.setCell ⟨gh, 8 + k, none⟩ (.int .i64 (E : Nat))) := (Kept.refl (fun g => g = gh) w7).setCell (p := ⟨gh, 8 + k, none⟩) (.inl rfl) _
      have hrs8 := HRS7.out.kept k8 (fun e => HNE.out e.symm) (fun e => HNE1.out e.symm) (fun j hj => by rw [hj]; exact HGW.out)
      clear hx1
      go_upto_region 15 with fail
      generalize w7.setCell ⟨gh, 8 + k, none⟩ (.int .i64 (E : Nat)) = w8 at hr8 k8 hrs8 ⊢
      have hr9 : RowC w8 gh 13 31 (hvN b (k + 1)) := rowC_to hr8 (fun i hi => by rw [hvN_set b hk4 i hi, ← HAE.out, HE.out])
      have HR9 := Lib.hid hr9
      have HRS9 := Lib.hid hrs8
      clear c0 f0 hr8 k8 hrs8 hr9 HR7 HRS7
      have hfin : ∀ (W : World) (F : Nat), tA b (k + 1) = F → RvS w W g2 → RowC W gh 13 31 (hvN b (k + 1)) → (b.length < F → vwE b = (10, b.length)) ∧ (¬ b.length < F → (lvE b (k + 1)).1 = 0) := fun W F hF _ _ => by
        have hl2 : lE b k = if b.length < F then (10, b.length) else (0, 0) := by rw [HLE.out, if_neg h1, if_neg h2, hF]
        refine ⟨fun h => ?_, fun h => HGO.out (by rw [hl2, if_neg h])⟩
        rw [if_pos h] at hl2
        rw [HST.out (by rw [hl2]; simp), hl2]
      have HFIN := Lib.hid hfin
      clear hfin
      by_cases h0 : 0 < k
      · have dk : decide ((0 : Int) < (k : Int)) = true := decide_eq_true (by omega)
        have dk' : decide (0 < k) = true := decide_eq_true h0
        obtain ⟨k1, hk1⟩ : ∃ k1 : Nat, k = k1 + 1 := ⟨k - 1, by omega⟩
        obtain ⟨m, hm⟩ : ∃ m, m = tN b k1 := ⟨_, rfl⟩
        have hup := ((HC.out k hk4).up h0).1
        rw [show k - 1 = k1 by omega, ← hm, ← HNK.out] at hup
        have cN : w8.cell? ⟨gh, k, none⟩ = some (.int .i64 (nk : Nat)) := by rw [HR9.out.cell (by omega), HNK.out]; unfold hvN; rw [if_pos hk4]
        have cM : w8.cell? ⟨gh, k1, none⟩ = some (.int .i64 (m : Nat)) := by rw [HR9.out.cell (by omega), hm]; unfold hvN; rw [if_pos (by omega)]
        have hsz := fun W => rsize_at nk m W (by omega) hup
        obtain ⟨z, hze⟩ : ∃ z, z = oE nk m := ⟨_, rfl⟩
        have hzb : z ≤ 100000000 := by rw [hze]; unfold oE oM oS oG; omega
        simp only [← hze] at hsz
        have HSZ := Lib.hid hsz
        obtain ⟨F, hFe⟩ : ∃ F, F = E + z := ⟨_, rfl⟩
        have HF := Lib.hid (show tA b (k + 1) = F by rw [tA_succ, if_neg (by omega), HE.out, show k - 1 = k1 by omega, ← hm, ← HNK.out, ← hze, hFe])
        have hF1 : (E : Int) + (z : Int) = (F : Int) := by omega
        have hF2 : ((E + z : Nat) : Int) = (F : Int) := by omega
        have hFb : F ≤ 140737600000000 := by omega
        have hk6 : k1 < 4 := by omega
        have hk8 : (k : Int) - 1 = (k1 : Int) := by omega
        clear hup hm hsz hze hFe hk1
        go_upto_region 16 with fail
        go_quiet ((go_at_call 20; exact quiet_eq (HSZ.out _)))
        have HRA := Lib.hid (show RowC (w8.drewN nq) gh 13 31 (hvN b (k + 1)) from HR9.out)
        have HRSA := Lib.hid (HRS9.out.below (below_drewN (Below.refl _ _) nq))
        clear cN cM HR9 HRS9 HSZ
        generalize w8.drewN nq = w9 at HRA HRSA ⊢
        try simp only [hF1, hF2]
        clear hF1 hF2
        obtain ⟨u1, u2⟩ := HFIN.out w9 F HF.out HRSA.out HRA.out
        have U1 := Lib.hid u1
        have U2 := Lib.hid u2
        clear u1 u2
        by_cases h3 : b.length < F
        · have d3 : decide ((b.length : Int) < (F : Int)) = true := decide_eq_true (by omega)
          have d3' : decide (b.length < F) = true := decide_eq_true h3
          have HEV := Lib.hid (U1.out h3)
          clear U1 U2
          obtain ⟨n1, n2, n3⟩ := (HRSA.out).sto (hvN b (k + 1)) (.int .i64 (b.length : Nat)) (.int .i64 10)
          have HN1 := Lib.hid n1
          have HN2 := Lib.hid n2
          have HN3 := Lib.hid n3
          obtain ⟨c0, c1, f0, f1⟩ := (HRSA.out).fs (hvN b (k + 1))
          clear n1 n2 n3
          go_wp2_with (first
            | (refine wpList_load_row rfl 31 _ rfl gh rfl _ (rowC 13 (hvN b (k + 1))) _ _ HRA.out Tryd.underlying31 rfl (HI13.out (hvN b (k + 1))) ?_)
            | (refine wpList_store_row rfl 31 _ _ rfl g2 (rowC 13 (hvN b (k + 1))) rfl rfl _ _ (HRSA.out).r2 (HI13.out (hvN b (k + 1))) (by rw [rowC_size, rowC_size]) (rowC_ints (fun i hi => hvN_int b (k + 1) i hi)) ?_))
          refine bodyPost_ret (results_cc rfl _ _ g2 (g2 + 1) _ _ _ _ _ _ _ _ rfl HN1.out rfl HN2.out Tryd.underlying31 rfl (HI13.out (hvN b (k + 1))) Tryd.underlying33 rfl HI2.out) rfl ⟨HN3.out, hvN b (k + 1), ?_, fun i hi => hvN_int b (k + 1) i hi, fun h => absurd h (by rw [HEV.out]; simp)⟩
          rw [HEV.out]; rfl
        · have d3 : decide ((b.length : Int) < (F : Int)) = false := decide_eq_false (by omega)
          have d3' : decide (b.length < F) = false := decide_eq_false h3
          have HU2 := Lib.hid (U2.out h3)
          clear U1 U2
          go_wp2_with fail
          exact ⟨⟨k + 1, by rw [HF.out], by go_num, by omega, HU2.out, HRSA.out, HRA.out⟩, by simp [intOf] <;> omega⟩
      · obtain rfl : k = 0 := by omega
        have HF' := Lib.hid (show tA b (0 + 1) = E by rw [tA_succ, if_pos rfl, HE.out, Nat.add_zero])
        obtain ⟨F, hFe⟩ : ∃ F, F = E := ⟨_, rfl⟩
        rw [← hFe] at HF' ⊢
        have hFb : F ≤ 140737491400000 := by omega
        have HF := HF'
        clear HF' hFe h0
        obtain ⟨u1, u2⟩ := HFIN.out w8 F HF.out HRS9.out HR9.out
        have U1 := Lib.hid u1
        have U2 := Lib.hid u2
        clear u1 u2
        by_cases h3 : b.length < F
        · have d3 : decide ((b.length : Int) < (F : Int)) = true := decide_eq_true (by omega)
          have d3' : decide (b.length < F) = true := decide_eq_true h3
          have HEV := Lib.hid (U1.out h3)
          clear U1 U2
          obtain ⟨n1, n2, n3⟩ := (HRS9.out).sto (hvN b (0 + 1)) (.int .i64 (b.length : Nat)) (.int .i64 10)
          have HN1 := Lib.hid n1
          have HN2 := Lib.hid n2
          have HN3 := Lib.hid n3
          obtain ⟨c0, c1, f0, f1⟩ := (HRS9.out).fs (hvN b (0 + 1))
          clear n1 n2 n3
          go_wp2_with (first
            | (refine wpList_load_row rfl 31 _ rfl gh rfl _ (rowC 13 (hvN b (0 + 1))) _ _ HR9.out Tryd.underlying31 rfl (HI13.out (hvN b (0 + 1))) ?_)
            | (refine wpList_store_row rfl 31 _ _ rfl g2 (rowC 13 (hvN b (0 + 1))) rfl rfl _ _ (HRS9.out).r2 (HI13.out (hvN b (0 + 1))) (by rw [rowC_size, rowC_size]) (rowC_ints (fun i hi => hvN_int b (0 + 1) i hi)) ?_))
          refine bodyPost_ret (results_cc rfl _ _ g2 (g2 + 1) _ _ _ _ _ _ _ _ rfl HN1.out rfl HN2.out Tryd.underlying31 rfl (HI13.out (hvN b (0 + 1))) Tryd.underlying33 rfl HI2.out) rfl ⟨HN3.out, hvN b (0 + 1), ?_, fun i hi => hvN_int b (0 + 1) i hi, fun h => absurd h (by rw [HEV.out]; simp)⟩
          rw [HEV.out]; rfl
        · have d3 : decide ((b.length : Int) < (F : Int)) = false := decide_eq_false (by omega)
          have d3' : decide (b.length < F) = false := decide_eq_false h3
          have HU2 := Lib.hid (U2.out h3)
          clear U1 U2
          go_wp2_with fail
          exact ⟨⟨0 + 1, by rw [HF.out], by go_num, by omega, HU2.out, HRS9.out, HR9.out⟩, by simp [intOf] <;> omega⟩
    · have hk44 : k = 4 := by omega
      subst hk44
      have hlen4 : tA b 4 ≤ 140737488355328 := by
        have := (lv_ok HLV.out).2.2 3 (by omega)
        have := this.en
        rw [show 3 + 1 = 4 from rfl] at this
        omega
      obtain ⟨A, hAe⟩ : ∃ A, A = tA b 4 := ⟨_, rfl⟩
      have HAE := Lib.hid hAe
      have hev : vwE b = if A < b.length then (13, A) else (0, 0) := by unfold vwE; rw [if_neg (by rw [HLV.out]; simp), ← hAe]
      rw [← hAe] at hlen4 ⊢
      have HEV0 := Lib.hid hev
      have c0 := HROW.out.cell (i := 12) (by omega)
      have hx0 : hvN b 4 12 = .int .i64 0 := rfl
      rw [hx0] at c0
      have f0 := HROW.out.frozen 12
      have hr6 := HROW.out.set 12 (.int .i64 (A : Nat))
      have k6 : Kept (fun g => g = gh) wr (wr.setCell ⟨gh, 12, none⟩ (.int .i64 (A : Nat))) := (Kept.refl (fun g => g = gh) wr).setCell (p := ⟨gh, 12, none⟩) (.inl rfl) _
      have hrs6 := HRS.out.kept k6 (fun e => HNE.out e.symm) (fun e => HNE1.out e.symm) (fun j hj => by rw [hj]; exact HGW.out)
      clear hx0 hAe hev
      go_upto_region 20 with fail
      generalize wr.setCell ⟨gh, 12, none⟩ (.int .i64 (A : Nat)) = w6 at hr6 k6 hrs6 ⊢
      have hr7 : RowC w6 gh 13 31 (hvT b) := rowC_to hr6 (fun i hi => by rw [hvT_set b i hi, ← HAE.out])
      have HR7 := Lib.hid hr7
      have HRS7 := Lib.hid hrs6
      have HTI := Lib.hid (show ∀ i, i < 13 → ∃ x, hvT b i = .int .i64 x from fun i hi => by unfold hvT; split; exact ⟨_, rfl⟩; exact hvN_int b 4 i hi)
      clear c0 f0 hr6 k6 hrs6 hr7
      by_cases h1 : A < b.length
      · have HEV := Lib.hid (show vwE b = (13, A) by rw [HEV0.out, if_pos h1])
        have d1 : decide ((A : Int) < (b.length : Int)) = true := decide_eq_true (by omega)
        have d1' : decide (A < b.length) = true := decide_eq_true h1
        obtain ⟨n1, n2, n3⟩ := (HRS7.out).sto (hvT b) (.int .i64 (A : Nat)) (.int .i64 13)
        have HN1 := Lib.hid n1
        have HN2 := Lib.hid n2
        have HN3 := Lib.hid n3
        obtain ⟨c0, c1, f0, f1⟩ := (HRS7.out).fs (hvT b)
        clear n1 n2 n3
        go_wp2_with (first
          | (refine wpList_load_row rfl 31 _ rfl gh rfl _ (rowC 13 (hvT b)) _ _ HR7.out Tryd.underlying31 rfl (HI13.out (hvT b)) ?_)
          | (refine wpList_store_row rfl 31 _ _ rfl g2 (rowC 13 (hvT b)) rfl rfl _ _ (HRS7.out).r2 (HI13.out (hvT b)) (by rw [rowC_size, rowC_size]) (rowC_ints (HTI.out)) ?_))
        refine bodyPost_ret (results_cc rfl _ _ g2 (g2 + 1) _ _ _ _ _ _ _ _ rfl HN1.out rfl HN2.out Tryd.underlying31 rfl (HI13.out (hvT b)) Tryd.underlying33 rfl HI2.out) rfl ⟨HN3.out, hvT b, ?_, HTI.out, fun _ i hi => rfl⟩
        rw [HEV.out]; rfl
      · have HEV := Lib.hid (show vwE b = (0, 0) by rw [HEV0.out, if_neg h1])
        have d1 : decide ((A : Int) < (b.length : Int)) = false := decide_eq_false (by omega)
        have d1' : decide (A < b.length) = false := decide_eq_false h1
        obtain ⟨n1, n2, n3⟩ := (HRS7.out).sto (hvT b) (.int .i64 0) (.int .i64 0)
        have HN1 := Lib.hid n1
        have HN2 := Lib.hid n2
        have HN3 := Lib.hid n3
        obtain ⟨c0, c1, f0, f1⟩ := (HRS7.out).fs (hvT b)
        clear n1 n2 n3
        go_wp2_with (first
          | (refine wpList_load_row rfl 31 _ rfl gh rfl _ (rowC 13 (hvT b)) _ _ HR7.out Tryd.underlying31 rfl (HI13.out (hvT b)) ?_)
          | (refine wpList_store_row rfl 31 _ _ rfl g2 (rowC 13 (hvT b)) rfl rfl _ _ (HRS7.out).r2 (HI13.out (hvT b)) (by rw [rowC_size, rowC_size]) (rowC_ints (HTI.out)) ?_))
        refine bodyPost_ret (results_cc rfl _ _ g2 (g2 + 1) _ _ _ _ _ _ _ _ rfl HN1.out rfl HN2.out Tryd.underlying31 rfl (HI13.out (hvT b)) Tryd.underlying33 rfl HI2.out) rfl ⟨HN3.out, hvT b, ?_, HTI.out, fun _ i hi => rfl⟩
        rw [HEV.out]; rfl
end Go.Proofs.YtgajpekolamjbaaDoor
