/- TdD TdE, laid as one. -/
import Derived.Test.YtgajpekolamjbaaDoorTvE
import Derived.Test.YtgajpekolamjbaaDoorOwB
import Derived.Test.YtgajpekolamjbaaDoorPkR
import Derived.Test.YtgajpekolamjbaaDoorRkRo
set_option linter.unusedVariables false
set_option linter.unusedSimpArgs false
/- The document's width of numbers, bits of a vector. -/
namespace Go.Tk
open Go Go.RowKit
/-- The greatest width. -/
def mxW (zs : List Int) : Int := zs.foldl (fun m x => max m (bw x)) 0
theorem mxW_snoc (zs : List Int) (x : Int) : mxW (zs ++ [x]) = max (mxW zs) (bw x) := by simp [mxW]
theorem mxW_range (zs : List Int) : 0 ≤ mxW zs ∧ mxW zs ≤ 64 := by
  unfold mxW
  have key : ∀ (l : List Int) (m : Int), 0 ≤ m → m ≤ 64 → 0 ≤ l.foldl (fun m x => max m (bw x)) m ∧ l.foldl (fun m x => max m (bw x)) m ≤ 64 := by
    intro l
    induction l with
    | nil => intro m h1 h2; exact ⟨h1, h2⟩
    | cons x l ih =>
      intro m h1 h2
      have := bw_range x
      show 0 ≤ l.foldl (fun m x => max m (bw x)) (max m (bw x)) ∧ l.foldl (fun m x => max m (bw x)) (max m (bw x)) ≤ 64
      exact ih (max m (bw x)) (by omega) (by omega)
  exact key zs 0 (by omega) (by omega)
theorem bw_max {a b : Nat} (ha : a < 18446744073709551616) (hb : b < 18446744073709551616) : bw ((max a b : Nat) : Int) = max (bw (a : Int)) (bw (b : Int)) := by
  have mono : ∀ x y : Nat, x ≤ y → y < 18446744073709551616 → bw (x : Int) ≤ bw (y : Int) := by
    intro x y hxy hy
    have hr := bw_range (y : Int)
    obtain ⟨d, hd⟩ : ∃ d : Nat, bw (y : Int) = d := ⟨(bw (y : Int)).toNat, by omega⟩
    have h1 := lt_of_bw (x := (y : Int)) (by omega) (by omega) (d := d) (by omega)
    have h2 := bw_le_of (x := x) (d := d) (by omega)
    omega
  rcases Nat.le_total a b with h | h
  · have := mono a b h hb; rw [show max a b = b by omega]; omega
  · have := mono b a h ha; rw [show max a b = a by omega]; omega
theorem slB_one {e : TypeId} (w : World) (x : Bool) : SlB (w.alloc (.cells #[.bool x] e)) (some ⟨w.heap.size, 0, none⟩) 1 1 [x] :=
  ⟨rfl, Nat.le_refl _, by omega, fun i hi => ⟨w.heap.size, 0, rfl, by
    obtain rfl : i = 0 := by omega
    rw [World.cell?_alloc_at _ _ _ _ rfl]
    simp⟩⟩
theorem OwB.keep {e : TypeId} {base : Nat} {w w' : World} {v : Value} {l : List Bool} (h : OwB e base w v l) (hb : Below w.heap.size w w') : OwB e base w' v l := by
  refine ⟨h.1, ?_⟩
  rcases h.2 with hn | ⟨g, cap, cur, rfl, hbg, hgg, rest⟩
  · exact .inl hn
  · exact .inr ⟨g, cap, cur, rfl, hbg, (hb.block _ (Array.getElem?_eq_some_iff.1 hgg).1).trans hgg, rest⟩
theorem OwB.lt {e : TypeId} {base : Nat} {w : World} {v : Value} {l : List Bool} (h : OwB e base w v l) : ∀ g, v.ownBlock = some g → base ≤ g ∧ g < w.heap.size := World.ownsRow.lt h
end Go.Tk
namespace Go.Proofs.YtgajpekolamjbaaDoor
open Go Go.RowKit Go.Tk
theorem mxW_mx (b : List UInt8) (k : Nat) (hw : tW b k ≤ 23) : ∀ n, mxW ((List.range n).map fun i => ((tM b k i : Nat) : Int)) = bw (mxN b k n : Nat)
  | 0 => by simp [mxW, mxN, bw, bitLen_zero]
  | n + 1 => by
    have ih := mxW_mx b k hw n
    have h1 := mxN_lt b k hw n
    have h2 : tM b k n < 8388608 := numF_lt (tP b k) (tW b k) n hw
    rw [List.range_succ, List.map_append, List.map_cons, List.map_nil, mxW_snoc, ih]
    simp only [mxN]
    rw [bw_max (by omega) (by omega)]
set_option maxRecDepth 100000 in
theorem rwidthL_calls (w : World) (a : Option Addr) (n c : Nat) (zs : List Int) (h : SlI .u64 w a n c zs) (hz : ∀ x ∈ zs, 0 ≤ x ∧ x < 18446744073709551616) :
    Calls Tryd.prog 43 #[.slice a n c] w fun e w' => e = .returned (.int .i64 (mxW zs)) ∧ w' = w := by
  have hle := h.le
  have hmx := h.max
  have H := Lib.hid h
  have HL := Lib.hid h.len
  have HZ := Lib.hid hz
  clear h hz
  go_enter Tryd.func43, Tryd.ntmps43
  go_wp2
  go_loopw [3, 4] (fun mv iv wr => ∃ i : Nat, mv = .int .i64 (mxW (zs.take i)) ∧ iv = .int .i64 (i : Nat) ∧ i ≤ n ∧ wr = w) (fun _ iv _ => n - (intOf iv).toNat)
  case atStart => exact ⟨0, rfl, rfl, Nat.zero_le _, rfl⟩
  case round =>
    obtain ⟨i, rfl, rfl, hi, rfl⟩ := hrel
    by_cases hin : i < n
    · obtain ⟨b, o, hab, hc⟩ := H.out.cell i hin
      subst hab
      have hiz : i < zs.length := by rw [HL.out]; exact hin
      obtain ⟨x, hx⟩ : ∃ x, x = zs.getD i 0 := ⟨_, rfl⟩
      have hxm : x ∈ zs := by rw [hx, List.getD_eq_getElem?_getD, List.getElem?_eq_getElem hiz]; exact List.getElem_mem _
      have hxr := HZ.out x hxm
      have hs : zs.take (i + 1) = zs.take i ++ [x] := by rw [List.take_succ_eq_append_getElem hiz, hx]; simp [hiz]
      have hm := mxW_snoc (zs.take i) x
      rw [← hs] at hm
      rw [← hx] at hc
      have HM := Lib.hid hm
      have HW := Lib.hid (rwidth_calls x wr hxr.1 hxr.2)
      have hr := mxW_range (zs.take i)
      obtain ⟨m, hme⟩ : ∃ m, m = mxW (zs.take i) := ⟨_, rfl⟩
      rw [← hme] at HM hr ⊢
      clear hx hxm hxr hs hm hme
      go_wp2_with (go_at_call 59; (with_reducible refine HW.out.mono ?_); rintro e wz ⟨rfl, rfl⟩)
      exact ⟨⟨i + 1, by rw [HM.out], by go_num, by omega, by first | rfl | trivial⟩, by simp [intOf]; omega⟩
    · go_wp2
      go_ret
      refine ⟨?_, by first | rfl | trivial⟩
      rw [List.take_of_length_le (by rw [HL.out]; omega)]
      rfl
set_option maxRecDepth 100000 in
set_option maxHeartbeats 1000000 in
theorem rbits_calls (w : World) (a : Option Addr) (c : Nat) (l : List UInt8) (h : SlI .u8 w a l.length c (nums l)) (hN : f4 l 0 ≤ 1048576) (hE : 8 + (f4 l 0 + 7) / 8 ≤ l.length) :
    Calls Tryd.prog 62 #[.slice a l.length c] w fun e w' => ∃ v, e = .returned v ∧ OwB 4 w.heap.size w' v ((List.range (f4 l 0)).map (btB (datB l))) ∧ Below w.heap.size w w' := by
  obtain ⟨n, hn⟩ : ∃ n, n = f4 l 0 := ⟨_, rfl⟩
  have HNU := Lib.hid (numbers_calls w a c l h (by omega))
  have HDA := Lib.hid (fun W (hb : Below w.heap.size w W) => rdata_calls W a c l (h.keep hb) (by omega) hE)
  rw [← hn] at HNU
  simp only [← hn] at HDA
  rw [← hn] at hN hE ⊢
  have hdl := da_len l n (by rw [hn]; exact (by rw [hn] at hE; exact hE))
  have hbt := fun i hi => da_bt l n i hi
  obtain ⟨d, hd⟩ : ∃ d, d = daB l n := ⟨_, rfl⟩
  simp only [← hd] at HDA hdl hbt
  obtain ⟨m4, hm4⟩ : ∃ m, m = f4 l 4 := ⟨_, rfl⟩
  rw [← hm4] at HNU
  have HDL := Lib.hid hdl
  have HBT := Lib.hid hbt
  clear h hn hdl hbt hd hm4
  go_enter Tryd.func62, Tryd.ntmps62
  go_upto_region 3 with (first
    | (go_at_call 60; (with_reducible refine HNU.out.mono ?_); rintro e w1 ⟨rfl, q1, hw1⟩; (have HB1 := Lib.hid (show Below w.heap.size w w1 by rw [hw1]; exact below_drewN (Below.refl _ _) _)); (have HZ1 := Lib.hid (show w1.heap.size = w.heap.size by rw [hw1]; rfl)); clear hw1)
    | (go_at_call 70; (with_reducible refine (HDA.out w1 HB1.out).mono ?_); rintro e w2 ⟨ad, cd, rfl, hsd, q2, hw2⟩; (have HB2 := Lib.hid (show Below w.heap.size w w2 by rw [hw2]; exact below_drewN HB1.out _)); (have HLT := Lib.hid (show 0 < (n + 7) / 8 → ∀ x, ad = some x → x.block < w.heap.size from fun h0 x hx => by obtain ⟨b1, o1, e1, hc1⟩ := hsd.cell 0 h0; have h9 := block_lt_of_cell hc1; rw [HZ1.out] at h9; rw [e1] at hx; cases hx; exact h9)); (have HSD := Lib.hid (hsd.keep (show Below w1.heap.size w1 w2 by rw [hw2]; exact below_drewN (Below.refl _ _) _))); clear hw2 hsd))
  clear HNU HDA HB1
  go_wp2_with fail
  go_loopw [6, 7] (fun vv iv wr => ∃ (i : Nat) (v' : Value), vv = v' ∧ iv = .int .i64 (i : Nat) ∧ i ≤ n ∧ OwB 4 w.heap.size wr v' ((List.range i).map (btB (datB l))) ∧ Below w.heap.size w wr ∧ SlI .u8 wr ad ((n + 7) / 8) cd (nums d)) (fun _ iv _ => n - (intOf iv).toNat)
  case atStart => exact ⟨0, _, rfl, rfl, Nat.zero_le _, World.ownsRow_nil _ _ _ _, HB2.out, HSD.out⟩
  case round =>
    rename World => wr
    obtain ⟨i, vo, rfl, rfl, hi, how, hb, hs⟩ := hrel
    obtain ⟨va, vc, hvv, _, _⟩ := OwB.sl how
    rw [List.length_map, List.length_range] at hvv
    subst hvv
    have HOW := Lib.hid how
    have HB := Lib.hid hb
    have HS := Lib.hid hs
    have hzw := hb.size
    clear how hb hs HB2 HSD
    by_cases hin : i < n
    · have HBI := Lib.hid (bit_calls wr ad ((n + 7) / 8) cd d i HS.out (by rw [HDL.out]; omega) (by omega))
      have hbb : btB d i = btB (datB l) i := HBT.out i (by omega)
      have hr : (List.range (i + 1)).map (btB (datB l)) = (List.range i).map (btB (datB l)) ++ [btB d i] := by rw [List.range_succ, List.map_append, hbb]; rfl
      obtain ⟨x, hx⟩ : ∃ x, x = btB d i := ⟨_, rfl⟩
      rw [← hx] at HBI hr
      obtain ⟨R, hR⟩ : ∃ R, R = (List.range i).map (btB (datB l)) := ⟨_, rfl⟩
      have hRl : R.length = i := by rw [hR]; simp
      rw [← hR] at HOW hr
      have HR := Lib.hid hr
      have HRL := Lib.hid hRl
      clear hbb hr hx hR hRl
      go_wp2_with (first
        | (go_at_call 74; (with_reducible refine HBI.out.mono ?_); rintro e wz ⟨rfl, rfl⟩)
        | (at_builtin; refine wpList_appB rfl _ _ 69 rfl w.heap.size 4 (.bool false) 1 Tryd.underlying69 infoB rfl _ R rfl (World.ownsRow.alloc HOW.out _) (some ⟨wr.heap.size, 0, none⟩) 1 1 [x] rfl (slB_one wr x) (by simp) (by rw [HRL.out]; omega) (by rw [HRL.out]; omega) (by simp; omega) ?_; intro v' w6 hown' hgrow _; (have HW := Lib.hid hown'); (have HG := Lib.hid hgrow); clear hown' hgrow))
      have hbw : Below w.heap.size w w6 := (HB.out.alloc hzw _).grown HG.out (by simp; omega) (fun k e => (HOW.out.lt k e).1)
      have hmid := ((Kept.refl _ wr).alloc (.cells #[.bool x] 4)).trans (Kept.of_grown HG.out) (fun k h => .inl h)
      refine ⟨⟨i + 1, v', rfl, by go_num, by omega, by rw [HR.out]; exact HW.out, hbw, HS.out.kept hmid (fun y hy e => ?_)⟩, by simp [intOf]; omega⟩
      have h1 := HLT.out (by omega) y hy
      have h2 := (HOW.out.lt _ e).1
      omega
    · have HIN := Lib.hid (show i = n by omega)
      go_wp2
      go_ret
      exact ⟨_, rfl, by rw [← HIN.out]; exact HOW.out, HB.out⟩
end Go.Proofs.YtgajpekolamjbaaDoor
/- The document's vector of a level. -/
namespace Go.Proofs.YtgajpekolamjbaaDoor
open Go Go.RowKit Go.Tk
theorem flt_sto {w W : World} {g : Nat} (x y : Int) (hr : W.heap[g]? = some (.cells #[.int .i64 0, .int .i64 0] 33 (0, 0))) (hb : Below w.heap.size w W) (hg : w.heap.size ≤ g) :
    ((W.setCell ⟨g, 0, none⟩ (.int .i64 x)).setCell ⟨g, 1, none⟩ (.int .i64 y)).heap[g]? = some (.cells #[.int .i64 x, .int .i64 y] 33 (0, 0)) ∧ Below w.heap.size w ((W.setCell ⟨g, 0, none⟩ (.int .i64 x)).setCell ⟨g, 1, none⟩ (.int .i64 y)) :=
  ⟨stor2O hr, (hb.setCell (p := ⟨g, 0, none⟩) hg _).setCell (p := ⟨g, 1, none⟩) hg _⟩
/-- The bytes of a level's vector. -/
theorem tB_len {b : List UInt8} {k : Nat} (h0 : 0 < k) (hL : LvOk b k) : (tB b k).length = oE (tN b k) (tN b (k - 1)) := by
  have h1 := hL.en
  have h2 := tA_succ b k
  rw [if_neg (by omega)] at h2
  have h3 := tX_ge b k
  unfold tB
  rw [List.length_take, List.length_drop]
  omega
theorem tV_iff {b : List UInt8} {k : Nat} (h0 : 0 < k) (hC : CnOk b k) (hL : LvOk b k) : tV b k = (decide (f4 (tB b k) 0 = tN b k) && decide (f4 (tB b k) 4 = tN b (k - 1))) := by
  unfold tV
  rw [decide_eq_true h0, Bool.true_and]
  by_cases e0 : f4 (tB b k) 0 = tN b k
  · by_cases e4 : f4 (tB b k) 4 = tN b (k - 1)
    · have hl := tB_len h0 hL
      have hle := hC.le
      have hup := (hC.up h0).1
      have h8 : 8 ≤ (tB b k).length := by rw [hl]; unfold oE oM oS oG; omega
      have hsh : shF (tB b k) = (0, 0) := by
        unfold shF
        rw [e0, e4, hl, if_neg (by rw [hl] at h8; omega), if_neg (by omega), if_neg (by omega), if_neg (by omega)]
      have hf : (fV (tB b k)).2 = 0 := by
        unfold fV
        rw [hsh, e0, e4, hl, if_neg (by simp), if_neg (by omega)]
      rw [decide_eq_true hf, decide_eq_true e0, decide_eq_true e4]; rfl
    · rw [decide_eq_false e4]; simp
  · rw [decide_eq_false e0]; simp
/-- What the document's vector hands back. -/
def RvcR (w : World) (b : List UInt8) (k : Nat) (e : Ending) (w' : World) : Prop := ∃ (v : Value) (x y : Nat), (tV b k = true → OpenQ (tB b k) x y) ∧ e = .returned (.tuple #[v, flT (lkB b k x y)]) ∧ ((lkB b k x y).1 = 0 → OwB 4 w.heap.size w' v ((List.range (tN b k)).map (tBit b k))) ∧ Below w.heap.size w w'
theorem openq_le {bs : List UInt8} {x y : Nat} (h : OpenQ bs x y) : x ≤ 2 * bs.length + 4294967296 := by
  rcases h with ⟨h1, rfl, _⟩ | ⟨h1, _, rfl, _⟩ | ⟨_, _, _, rfl, _⟩ | ⟨h0, _, _, h⟩
  · unfold shF at h1 ⊢
    repeat' split
    all_goals first | omega | (simp at h1)
  · obtain ⟨h8, hN, hm, hE, _⟩ := shF_ok h1
    unfold oE oM oS oG at hE
    unfold oG
    omega
  · omega
  · obtain ⟨h8, hN, hm, hE, _⟩ := shF_ok h0
    rcases h with ⟨i, h1, h2, _, _, rfl, _⟩ | ⟨_, ⟨h1, rfl, _⟩ | ⟨_, rfl, _⟩⟩
    · unfold placeF
      unfold oE at h2 hE
      repeat' split
      all_goals omega
    · omega
    · omega
/-- A fault's store leaves what is the call's own. -/
theorem ow_setflt {base : Nat} {W : World} {v : Value} {l : List Bool} {g : Nat} {x y : Int} (h : OwB 4 base W v l) (hb : g < base) : OwB 4 base ((W.setCell ⟨g, 0, none⟩ (.int .i64 x)).setCell ⟨g, 1, none⟩ (.int .i64 y)) v l := by
  refine ⟨h.1, ?_⟩
  rcases h.2 with hn | ⟨g', cap, cur, rfl, hbg, hgg, rest⟩
  · exact .inl hn
  · exact .inr ⟨g', cap, cur, rfl, hbg, (heap_setCell_other _ _ _ _ (by simp; omega)).trans ((heap_setCell_other _ _ _ _ (by simp; omega)).trans hgg), rest⟩
set_option maxRecDepth 100000 in
set_option maxHeartbeats 8000000 in
theorem rvector_calls (w : World) (a : Option Addr) (c : Nat) (b : List UInt8) (hs : SlI .u8 w a b.length c (nums b)) (cs : Nat → Value) (hcs : ∀ i, i < 13 → cs i = hvT b i) (k : Nat) (h0 : 0 < k) (hk : k < 4) (hC : CnOk b k) (hL : LvOk b k) (hlen : b.length ≤ 140737488355328) :
    Calls Tryd.prog 44 #[.slice a b.length c, .agg (rowC 13 cs), .int .i64 (k : Nat)] w (RvcR w b k) := by
  have hle := hs.le
  have hmx := hs.max
  have hb1 : Below w.heap.size w ((w.alloc (.cells (rowC 13 cs) 31)).alloc (.cells #[.int .i64 0, .int .i64 0] 33)) := ((Below.refl _ w).alloc (Nat.le_refl _) _).alloc (by simp) _
  have hrow : RowC ((w.alloc (.cells (rowC 13 cs) 31)).alloc (.cells #[.int .i64 0, .int .i64 0] 33)) w.heap.size 13 31 cs := (Below.heap_alloc _ _ _ (by simp)).trans (heap_alloc_new _ _)
  have hfl : ((w.alloc (.cells (rowC 13 cs) 31)).alloc (.cells #[.int .i64 0, .int .i64 0] 33)).heap[w.heap.size + 1]? = some (.cells #[.int .i64 0, .int .i64 0] 33 (0, 0)) := by
    have := heap_alloc_new (w.alloc (.cells (rowC 13 cs) 31)) (.cells #[.int .i64 0, .int .i64 0] 33)
    simpa using this
  have HI2 := Lib.hid Tryd.sizeFlT
  have HS := Lib.hid hs
  have HCS := Lib.hid hcs
  have HC := Lib.hid hC
  have HL := Lib.hid hL
  clear hs hcs hC hL
  go_enter Tryd.func44, Tryd.ntmps44
  go_upto_region 1 with fail
  generalize (w.alloc (.cells (rowC 13 cs) 31)).alloc (.cells #[.int .i64 0, .int .i64 0] 33) = w1 at hb1 hrow hfl ⊢
  obtain ⟨g4, hg4⟩ : ∃ g4, g4 = w.heap.size := ⟨_, rfl⟩
  obtain ⟨g7, hg7⟩ : ∃ g7, g7 = w.heap.size + 1 := ⟨_, rfl⟩
  rw [← hg7] at hfl ⊢
  rw [← hg4] at hrow ⊢
  have HB1 := Lib.hid hb1
  have HROW := Lib.hid hrow
  have HFL := Lib.hid hfl
  have HG7 := Lib.hid (show w.heap.size ≤ g7 by omega)
  obtain ⟨E, hE⟩ : ∃ E, E = tE b k := ⟨_, rfl⟩
  obtain ⟨n, hn⟩ : ∃ n, n = tN b k := ⟨_, rfl⟩
  obtain ⟨k1, hk1⟩ : ∃ k1 : Nat, k = k1 + 1 := ⟨k - 1, by omega⟩
  obtain ⟨m, hm⟩ : ∃ m, m = tN b k1 := ⟨_, rfl⟩
  obtain ⟨F, hF⟩ : ∃ F, F = tA b (k + 1) := ⟨_, rfl⟩
  have hnb : n ≤ 1048576 := by rw [hn]; exact HC.out.le
  have hup : m ≤ n := by have := (HC.out.up h0).1; rw [show k - 1 = k1 by omega, ← hm, ← hn] at this; exact this
  have hEF : E ≤ F := by rw [hE, hF]; exact tX_ge b k
  have hFl : F ≤ b.length := by rw [hF]; exact HL.out.en
  have hFE : F = E + oE n m := by rw [hF, tA_succ, if_neg (by omega), ← hE, ← hn, show k - 1 = k1 by omega, ← hm]
  have hBl : (tB b k).length = oE n m := by rw [tB_len h0 HL.out, ← hn, show k - 1 = k1 by omega, ← hm]
  have htv := tV_iff h0 HC.out HL.out
  rw [← hn, show k - 1 = k1 by omega, ← hm] at htv
  obtain ⟨v, hv⟩ : ∃ v, v = tB b k := ⟨_, rfl⟩
  have hvcut : ((nums b).drop E).take (F - E) = nums v := by rw [hv, hE, hF]; unfold tB; rw [nums_cut]
  have hbit : ∀ i, i < n → tBit b k i = btB (datB v) i := fun i hi => by unfold tBit; rw [← hn, decide_eq_true hi, Bool.true_and, hv]
  have hlk : ∀ x y, lkB b k x y = if tV b k = false then ((180 : Int), E) else if y ≠ 0 then (((y : Nat) : Int), E + x) else if 0 < n ∧ tBit b k (n - 1) = false then (180, E) else (0, 0) := fun x y => by unfold lkB; rw [hE, hn]
  have hvl : (tV b k = true → OpenQ v 0 0) → True := fun _ => trivial
  rw [← hv] at hBl htv
  have HVE := Lib.hid hv
  obtain ⟨z, hz⟩ : ∃ z, z = oE n m := ⟨_, rfl⟩
  have hzb : z ≤ 100000000 := by rw [hz]; unfold oE oM oS oG; omega
  have hz8 : 8 + (n + 7) / 8 ≤ z := by rw [hz]; unfold oE oM oS oG; omega
  rw [← hz] at hBl hFE
  have e8 : w1.cell? ⟨g4, 8 + k, none⟩ = some (.int .i64 (E : Nat)) := by
    rw [hrow.cell (by omega), HCS.out _ (by omega), hE]; unfold hvT hvN; rw [if_neg (by omega), if_neg (by omega), if_neg (by omega), if_pos (by omega), if_pos (by omega), show 8 + k - 8 = k by omega]
  have eN : w1.cell? ⟨g4, k, none⟩ = some (.int .i64 (n : Nat)) := by
    rw [hrow.cell (by omega), HCS.out _ (by omega), hn]; unfold hvT hvN; rw [if_neg (by omega), if_pos (by omega)]
  have eM : w1.cell? ⟨g4, k1, none⟩ = some (.int .i64 (m : Nat)) := by
    rw [hrow.cell (by omega), HCS.out _ (by omega), hm]; unfold hvT hvN; rw [if_neg (by omega), if_pos (by omega)]
  have HSZ := Lib.hid (fun W => (show Calls Tryd.prog 20 #[.int .i64 (n : Nat), .int .i64 (m : Nat)] W fun e w' => e = .returned (.int .i64 (z : Nat)) ∧ W = w' by rw [hz]; exact rsize_at n m W (by omega) hup))
  have hF1 : (E : Int) + (z : Int) = (F : Int) := by omega
  have hF2 : ((E + z : Nat) : Int) = (F : Int) := by omega
  have hk6 : k1 < 4 := by omega
  have hk8 : (k : Int) - 1 = (k1 : Int) := by omega
  have hEb : E ≤ 140737488355328 := by omega
  have HV := Lib.hid hvcut
  have HVL := Lib.hid hBl
  have HTV := Lib.hid htv
  have HBIT := Lib.hid hbit
  have HLK := Lib.hid hlk
  have HN := Lib.hid hn
  clear hb1 hrow hfl hg4 hg7 hE hn hm hF hFE hBl htv hv hvcut hbit hlk hvl hz hk1
  go_upto_region 2 with fail
  go_quiet ((go_at_call 20; exact quiet_eq (HSZ.out _)))
  have HB2 := Lib.hid (below_drewN HB1.out nq)
  have HR2 := Lib.hid (show RowC (w1.drewN nq) g4 13 31 cs from HROW.out)
  have HF2 := Lib.hid (show (w1.drewN nq).heap[g7]? = some (.cells #[.int .i64 0, .int .i64 0] 33 (0, 0)) from HFL.out)
  have hN2 : (w1.drewN nq).cell? ⟨g4, k, none⟩ = some (.int .i64 (n : Nat)) := eN
  have hM2 : (w1.drewN nq).cell? ⟨g4, k1, none⟩ = some (.int .i64 (m : Nat)) := eM
  clear e8 eN eM HB1 HROW HFL HSZ
  generalize w1.drewN nq = w2 at HB2 HR2 HF2 hN2 hM2 ⊢
  try simp only [hF1, hF2]
  have hcut := SlI.cut (HS.out.keep HB2.out) E (F - E) (by omega)
  rw [HV.out, show E + (F - E) - E = F - E by omega] at hcut
  obtain ⟨L2, hL2⟩ : ∃ L2, L2 = F - E := ⟨_, rfl⟩
  obtain ⟨A, hAd⟩ : ∃ A, A = (if c = E then a else Option.map (fun x => x.add E) a) := ⟨_, rfl⟩
  obtain ⟨c2, hc2⟩ : ∃ c2, c2 = c - E := ⟨_, rfl⟩
  have hvL : v.length = L2 := by have := hcut.len; rw [nums_len] at this; rw [hL2]; exact this
  have hA' := hAd.symm
  have hc2' := hc2.symm
  have hL2' := hL2.symm
  rw [← hAd, ← hc2, ← hL2] at hcut
  have HCUT := Lib.hid hcut
  have HVL2 := Lib.hid hvL
  clear hcut hAd hc2 hL2 hvL hF1 hF2
  go_upto_region 4 with fail
  clear hA' hc2' hL2'
  have hzL : z = L2 := by have h1 := HVL.out; have h2 := HVL2.out; omega
  have hnum := fun W (hb : Below w2.heap.size w2 W) => numbers_calls W A c2 v (by have := HCUT.out.keep hb; rw [HVL2.out]; exact this) (by rw [HVL2.out]; omega)
  rw [HVL2.out] at hnum
  obtain ⟨p, hp⟩ : ∃ p, p = f4 v 0 := ⟨_, rfl⟩
  obtain ⟨q, hq⟩ : ∃ q, q = f4 v 4 := ⟨_, rfl⟩
  simp only [← hp, ← hq] at hnum
  have hpb : p < 4294967296 := by rw [hp]; exact f4_lt _ _
  have hqb : q < 4294967296 := by rw [hq]; exact f4_lt _ _
  have HNUM := Lib.hid hnum
  have htv := HTV.out
  rw [← hp, ← hq] at htv
  have HTV2 := Lib.hid htv
  have HP := Lib.hid hp
  clear hnum hp hq htv HTV
  go_upto_region 5 with (go_at_call 60; (with_reducible refine (HNUM.out w2 (Below.refl _ _)).mono ?_); rintro e w3 ⟨rfl, q3, hw3⟩; (have HW3 := Lib.hid hw3); clear hw3)
  have hb23 : Below w2.heap.size w2 w3 := by rw [HW3.out]; exact below_drewN (Below.refl _ _) _
  have HB3 := Lib.hid (HB2.out.trans (hb23.mono HB2.out.size))
  have HF3 := Lib.hid ((hb23.block _ (lt_of_block HF2.out)).trans HF2.out)
  have HCUT3 := Lib.hid (HCUT.out.keep hb23)
  have hN3 := (hb23.cell (p := ⟨g4, k, none⟩) (block_lt_of_cell hN2)).trans hN2
  have hM3 := (hb23.cell (p := ⟨g4, k1, none⟩) (block_lt_of_cell hM2)).trans hM2
  clear hb23 HW3 HB2 HF2 HCUT hN2 hM2 HNUM
  by_cases hpn : p = n
  rotate_left
  · have d1 : ((p : Int) != (n : Int)) = true := by simp; omega
    have HVF := Lib.hid (show tV b k = false by rw [HTV2.out, decide_eq_false hpn]; rfl)
    have HEV := Lib.hid (show lkB b k 0 0 = (180, E) by rw [HLK.out, if_pos HVF.out])
    clear hpn
    obtain ⟨n1, n2⟩ := flt_sto (E : Nat) 180 HF3.out HB3.out HG7.out
    have HN1 := Lib.hid n1
    have HN2 := Lib.hid n2
    have c0 : w3.cell? ⟨g7, 0, none⟩ = some (.int .i64 0) := cellT0 HF3.out
    have c1 : w3.cell? ⟨g7, 1, none⟩ = some (.int .i64 0) := cellT1 HF3.out
    have f0 : w3.frozen? ⟨g7, 0, none⟩ = false := frozen_of_row w3 g7 0 _ _ HF3.out
    have f1 : w3.frozen? ⟨g7, 1, none⟩ = false := frozen_of_row w3 g7 1 _ _ HF3.out
    clear n1 n2
    go_wp2_with fail
    refine bodyPost_ret (results_tcO rfl _ _ g7 _ _ _ _ rfl HN1.out Tryd.underlying33 rfl HI2.out) rfl ⟨.slice none 0 0, 0, 0, (fun h => by rw [HVF.out] at h; cases h), ?_, (fun h => by rw [HEV.out] at h; cases h), HN2.out⟩
    rw [HEV.out]; rfl
  subst hpn
  by_cases hqm : q = m
  rotate_left
  · have d2 : ((q : Int) != (m : Int)) = true := by simp; omega
    have HVF := Lib.hid (show tV b k = false by rw [HTV2.out, decide_eq_false hqm]; simp)
    have HEV := Lib.hid (show lkB b k 0 0 = (180, E) by rw [HLK.out, if_pos HVF.out])
    clear hqm
    obtain ⟨n1, n2⟩ := flt_sto (E : Nat) 180 HF3.out HB3.out HG7.out
    have HN1 := Lib.hid n1
    have HN2 := Lib.hid n2
    have c0 : w3.cell? ⟨g7, 0, none⟩ = some (.int .i64 0) := cellT0 HF3.out
    have c1 : w3.cell? ⟨g7, 1, none⟩ = some (.int .i64 0) := cellT1 HF3.out
    have f0 : w3.frozen? ⟨g7, 0, none⟩ = false := frozen_of_row w3 g7 0 _ _ HF3.out
    have f1 : w3.frozen? ⟨g7, 1, none⟩ = false := frozen_of_row w3 g7 1 _ _ HF3.out
    clear n1 n2
    go_wp2_with fail
    refine bodyPost_ret (results_tcO rfl _ _ g7 _ _ _ _ rfl HN1.out Tryd.underlying33 rfl HI2.out) rfl ⟨.slice none 0 0, 0, 0, (fun h => by rw [HVF.out] at h; cases h), ?_, (fun h => by rw [HEV.out] at h; cases h), HN2.out⟩
    rw [HEV.out]; rfl
  subst hqm
  have HVT := Lib.hid (show tV b k = true by rw [HTV2.out]; simp)
  have d1 : ((p : Int) != (p : Int)) = false := by simp
  have d2 : ((q : Int) != (q : Int)) = false := by simp
  have hop := rkopen_calls w3 A c2 v (by have := HCUT3.out; rw [HVL2.out]; exact this)
  rw [HVL2.out] at hop
  have HOP := Lib.hid hop
  clear hop
  go_upto_region 8 with (go_at_call 61; (with_reducible refine HOP.out.mono ?_); rintro e w4 ⟨x, y, rfl, hxy, hb4⟩; (have HXY := Lib.hid hxy); (have HB4 := Lib.hid (HB3.out.trans (hb4.mono HB3.out.size))); (have HF4 := Lib.hid ((hb4.block _ (lt_of_block HF3.out)).trans HF3.out)); (have HCUT4 := Lib.hid (HCUT3.out.keep hb4)); clear hxy hb4)
  clear hN3 hM3 HF3 HCUT3 HOP HB3
  have hb5 := (Below.refl w4.heap.size w4).alloc (Nat.le_refl _) (.cells #[.int .i64 (x : Nat), .int .i64 (y : Nat)] 137)
  have hr13 := heap_alloc_new w4 (.cells #[.int .i64 (x : Nat), .int .i64 (y : Nat)] 137)
  have hne13 : g7 ≠ w4.heap.size := by have := lt_of_block HF4.out; omega
  generalize w4.alloc (.cells #[.int .i64 (x : Nat), .int .i64 (y : Nat)] 137) = w5 at hb5 hr13 ⊢
  generalize w4.heap.size = g13 at hr13 hne13 ⊢
  have HB5 := Lib.hid (HB4.out.trans (hb5.mono HB4.out.size))
  have HF5 := Lib.hid ((hb5.block _ (lt_of_block HF4.out)).trans HF4.out)
  have HCUT5 := Lib.hid (HCUT4.out.keep hb5)
  have HR13 := Lib.hid hr13
  have HNE13 := Lib.hid hne13
  have m1 : w5.cell? ⟨g13, 1, none⟩ = some (.int .i64 (y : Nat)) := cellT1 hr13
  clear hb5 hr13 hne13 HB4 HF4 HCUT4
  by_cases hy0 : y = 0
  rotate_left
  · have d3 : ((y : Int) != 0) = true := by simp; omega
    have d3' : (y != 0) = true := by simp; omega
    have HEV := Lib.hid (show lkB b k x y = (((y : Nat) : Int), E + x) by rw [HLK.out, if_neg (by rw [HVT.out]; simp), if_pos hy0])
    have HY := Lib.hid hy0
    have hxb := openq_le HXY.out
    rw [HVL2.out] at hxb
    clear hy0
    go_upto_region 9 with fail
    have hf5 : w5.drew.heap[g7]? = some (.cells #[.int .i64 0, .int .i64 0] 33 (0, 0)) := HF5.out
    refine wh_startN (S := fun W => W.heap[g13]? = some (.cells #[.int .i64 (x : Nat), .int .i64 (y : Nat)] 137 (0, 0))) 9 rfl (by kernel_rfl) ?_
    refine wh_takeD 0 62 (.int .i64 (E : Nat)) rfl rfl rfl (by kernel_rfl) (by kernel_rfl) (by kernel_rfl) (fun _ _ _ _ h => h) HR13.out (fun w' h => by simp [go_sem]) ?_
    refine wh_takeD 1 63 (.pointer (some ⟨g13, 0, none⟩)) rfl rfl rfl (by kernel_rfl) (by kernel_rfl) (by kernel_rfl) (fun _ _ _ _ h => h) HR13.out (fun w' h => by simp [go_sem]) ?_
    refine wh_takeD 2 64 (.int .i64 (x : Nat)) rfl rfl rfl (by kernel_rfl) (by kernel_rfl) (by kernel_rfl) (fun _ _ _ _ h => h) HR13.out (fun w' h => by have k0 := cellT0 h; simp [go_sem, k0]) ?_
    refine wh_takeD 3 65 (.int .i64 ((E : Int) + (x : Int))) rfl rfl rfl (by kernel_rfl) (by kernel_rfl) (by kernel_rfl) (fun _ _ _ _ h => h) HR13.out (fun w' h => by (have hw : IntKind.i64.wrap ((E : Int) + (x : Int)) = (E : Int) + (x : Int) := by rw [IntKind.wrap_i64]; omega); simp [go_sem, hw]) ?_
    refine wh_takeD 4 66 (.pointer (some ⟨g13, 1, none⟩)) rfl rfl rfl (by kernel_rfl) (by kernel_rfl) (by kernel_rfl) (fun _ _ _ _ h => h) HR13.out (fun w' h => by simp [go_sem]) ?_
    refine wh_takeD 5 67 (.int .i64 (y : Nat)) rfl rfl rfl (by kernel_rfl) (by kernel_rfl) (by kernel_rfl) (fun _ _ _ _ h => h) HR13.out (fun w' h => by have k1 := cellT1 h; simp [go_sem, k1]) ?_
    refine wh_takeD 6 68 (.agg #[.int .i64 ((E : Int) + (x : Int)), .int .i64 (y : Nat)]) rfl rfl rfl (by kernel_rfl) (by kernel_rfl) (by kernel_rfl) (fun _ _ _ _ h => h) HR13.out (fun w' h => by kernel_rfl) ?_
    refine wh_takeD 7 6 (.slice none 0 0) rfl rfl rfl (by kernel_rfl) (by kernel_rfl) (by kernel_rfl) (fun _ _ _ _ h => h) HR13.out (fun w' h => by simp [go_sem]) ?_
    refine wh_skipD 8 (w' := w5.drew.setRow g7 #[.int .i64 ((E : Int) + (x : Int)), .int .i64 (y : Nat)]) rfl rfl rfl (by kernel_rfl) (by exact run_store_rowO 33 _ _ rfl g7 _ (by simp [go_sem]) (by simp [go_sem]) 33 _ hf5 HI2.out rfl (by simp [Value.oneCell'])) ((setRow_other _ _ _ _ (fun e => HNE13.out e.symm)).trans HR13.out) ?_
    refine wpAnyH_done (by kernel_rfl) ?_ 0
    have hfin := setRow_heap w5.drew g7 _ #[.int .i64 ((E : Int) + (x : Int)), .int .i64 (y : Nat)] _ _ hf5
    have hbf : Below w.heap.size w (w5.drew.setRow g7 #[.int .i64 ((E : Int) + (x : Int)), .int .i64 (y : Nat)]) := below_setRow (Below.drew HB5.out) HG7.out _
    generalize w5.drew.setRow g7 #[.int .i64 ((E : Int) + (x : Int)), .int .i64 (y : Nat)] = w6 at hfin hbf ⊢
    have HN1 := Lib.hid hfin
    have HN2 := Lib.hid hbf
    clear hfin hbf m1 hf5
    simp only [go_sem, List.setIfInBounds_toArray, List.set_cons_succ, List.set_cons_zero]
    go_wp2
    refine bodyPost_ret (results_tcO rfl _ _ g7 _ _ _ _ rfl HN1.out Tryd.underlying33 rfl HI2.out) rfl ⟨.slice none 0 0, x, y, fun _ => by rw [← HVE.out]; exact HXY.out, ?_, (fun h => by rw [HEV.out] at h; simp at h; exact absurd h HY.out), HN2.out⟩
    rw [HEV.out]
    show _ = Ending.returned (.tuple #[_, .agg #[.int .i64 ((E + x : Nat) : Int), .int .i64 ((y : Nat) : Int)]])
    rw [show ((E + x : Nat) : Int) = (E : Int) + (x : Int) by omega]
    rfl
  subst hy0
  have hbi := rbits_calls w5 A c2 v (by have := HCUT5.out; rw [HVL2.out]; exact this) (by rw [← HP.out]; exact hnb) (by rw [← HP.out, HVL2.out]; omega)
  rw [HVL2.out, ← HP.out] at hbi
  have hbe : (List.range p).map (btB (datB v)) = (List.range p).map (tBit b k) := List.map_congr_left fun i hi => (HBIT.out i (List.mem_range.1 hi)).symm
  rw [hbe] at hbi
  have HBI := Lib.hid hbi
  clear hbi hbe
  go_upto_region 11 with (go_at_call 62; (with_reducible refine HBI.out.mono ?_); rintro e w6 ⟨vb, rfl, how, hb6⟩; (have HOW := Lib.hid how); (have HB6 := Lib.hid (HB5.out.trans (hb6.mono HB5.out.size))); (have HF6 := Lib.hid ((hb6.block _ (lt_of_block HF5.out)).trans HF5.out)); (have hz5 := HB5.out.size); (have HF5L := HF5); clear how hb6)
  clear m1 HBI HB5 HF5 HCUT5 HR13
  obtain ⟨va, vc, hve, hsb, _⟩ := OwB.sl HOW.out
  rw [List.length_map, List.length_range] at hve hsb
  subst hve
  have HSB := Lib.hid hsb
  have hleb := hsb.le
  have hmxb := hsb.max
  clear hsb
  by_cases hn0 : 0 < p
  · obtain ⟨p1, hp1⟩ : ∃ p1, p = p1 + 1 := ⟨p - 1, by omega⟩
    obtain ⟨bb, bo, hab, hcl⟩ := HSB.out.cell p1 (by omega)
    subst hab
    obtain ⟨t, ht⟩ : ∃ t, t = tBit b k p1 := ⟨_, rfl⟩
    have hcl2 : w6.cell? ⟨bb, bo + p1, none⟩ = some (.bool t) := by
      rw [hcl, ht]
      simp [List.getD_eq_getElem?_getD, List.getElem?_range (show p1 < p by omega)]
    have hp2 : (p : Int) - 1 = (p1 : Int) := by omega
    have hp3 : p1 < p := by omega
    have dp : decide ((0 : Int) < (p : Int)) = true := decide_eq_true (by omega)
    have dp' : decide (0 < p) = true := decide_eq_true hn0
    have HLK2 := Lib.hid (show lkB b k x 0 = if t = false then ((180 : Int), E) else (0, 0) by
      rw [HLK.out, if_neg (by rw [HVT.out]; simp), if_neg (by simp), show p - 1 = p1 by omega, ← ht]
      by_cases hh : t = false
      · rw [if_pos ⟨hn0, hh⟩, if_pos hh]
      · rw [if_neg (fun h => hh h.2), if_neg hh])
    clear hcl ht hp1
    cases t with
    | false =>
      have HEV := Lib.hid (show lkB b k x 0 = (180, E) by rw [HLK2.out]; rfl)
      obtain ⟨n1, n2⟩ := flt_sto (E : Nat) 180 HF6.out HB6.out HG7.out
      have HN1 := Lib.hid n1
      have HN2 := Lib.hid n2
      have c0 : w6.cell? ⟨g7, 0, none⟩ = some (.int .i64 0) := cellT0 HF6.out
      have c1 : w6.cell? ⟨g7, 1, none⟩ = some (.int .i64 0) := cellT1 HF6.out
      have f0 : w6.frozen? ⟨g7, 0, none⟩ = false := frozen_of_row w6 g7 0 _ _ HF6.out
      have f1 : w6.frozen? ⟨g7, 1, none⟩ = false := frozen_of_row w6 g7 1 _ _ HF6.out
      clear n1 n2
      go_wp2_with fail
      refine bodyPost_ret (results_tcO rfl _ _ g7 _ _ _ _ rfl HN1.out Tryd.underlying33 rfl HI2.out) rfl ⟨.slice none 0 0, x, 0, (fun _ => by rw [← HVE.out]; exact HXY.out), ?_, (fun h => by rw [HEV.out] at h; cases h), HN2.out⟩
      rw [HEV.out]; rfl
    | true =>
      have HEV := Lib.hid (show lkB b k x 0 = (0, 0) by rw [HLK2.out]; rfl)
      obtain ⟨n1, n2⟩ := flt_sto 0 0 HF6.out HB6.out HG7.out
      have HN1 := Lib.hid n1
      have HN2 := Lib.hid n2
      have c0 : w6.cell? ⟨g7, 0, none⟩ = some (.int .i64 0) := cellT0 HF6.out
      have c1 : w6.cell? ⟨g7, 1, none⟩ = some (.int .i64 0) := cellT1 HF6.out
      have f0 : w6.frozen? ⟨g7, 0, none⟩ = false := frozen_of_row w6 g7 0 _ _ HF6.out
      have f1 : w6.frozen? ⟨g7, 1, none⟩ = false := frozen_of_row w6 g7 1 _ _ HF6.out
      clear n1 n2
      go_wp2_with fail
      refine bodyPost_ret (results_tcO rfl _ _ g7 _ _ _ _ rfl HN1.out Tryd.underlying33 rfl HI2.out) rfl ⟨.slice (some ⟨bb, bo, none⟩) p vc, x, 0, (fun _ => by rw [← HVE.out]; exact HXY.out), ?_, (fun _ => by rw [← HN.out]; exact ownsRow_mono (ow_setflt HOW.out (by have := lt_of_block HF5L.out; omega)) hz5), HN2.out⟩
      rw [HEV.out]; rfl
  · have dp : decide ((0 : Int) < (p : Int)) = false := decide_eq_false (by omega)
    have dp' : decide (0 < p) = false := decide_eq_false hn0
    have HEV := Lib.hid (show lkB b k x 0 = (0, 0) by rw [HLK.out, if_neg (by rw [HVT.out]; simp), if_neg (by simp), if_neg (fun h => hn0 h.1)])
    obtain ⟨n1, n2⟩ := flt_sto 0 0 HF6.out HB6.out HG7.out
    have HN1 := Lib.hid n1
    have HN2 := Lib.hid n2
    have c0 : w6.cell? ⟨g7, 0, none⟩ = some (.int .i64 0) := cellT0 HF6.out
    have c1 : w6.cell? ⟨g7, 1, none⟩ = some (.int .i64 0) := cellT1 HF6.out
    have f0 : w6.frozen? ⟨g7, 0, none⟩ = false := frozen_of_row w6 g7 0 _ _ HF6.out
    have f1 : w6.frozen? ⟨g7, 1, none⟩ = false := frozen_of_row w6 g7 1 _ _ HF6.out
    clear n1 n2
    go_wp2_with fail
    refine bodyPost_ret (results_tcO rfl _ _ g7 _ _ _ _ rfl HN1.out Tryd.underlying33 rfl HI2.out) rfl ⟨.slice va p vc, x, 0, (fun _ => by rw [← HVE.out]; exact HXY.out), ?_, (fun _ => by rw [← HN.out]; exact ownsRow_mono (ow_setflt HOW.out (by have := lt_of_block HF5L.out; omega)) hz5), HN2.out⟩
    rw [HEV.out]; rfl
end Go.Proofs.YtgajpekolamjbaaDoor
