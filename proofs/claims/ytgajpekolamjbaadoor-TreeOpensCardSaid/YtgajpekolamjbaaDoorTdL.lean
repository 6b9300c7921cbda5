/- TdF TdL, laid as one. -/
import Derived.Test.YtgajpekolamjbaaDoorTdE
import Derived.Test.YtgajpekolamjbaaDoorPkR
import Derived.Test.YtgajpekolamjbaaDoorTvE
import Derived.Test.YtgajpekolamjbaaDoorTdC
set_option linter.unusedVariables false
set_option linter.unusedSimpArgs false
/- The document's open of a level. -/
namespace Go.Tk
open Go Go.RowKit
theorem wh_callxD {P : Program} {ops : Array Oper} {Q : Exit → Act → World → Prop} {md : Region.Mode} {S : World → Prop} (i d : Nat) (R : Value → World → Prop) {o : Oper} {fuel : Nat} {listed : Array Bool} {a : Act} {w : World} {f : FuncId} {args : Array Value} (hi : ops[i]? = some o) (hd : o.dst = some d) (hg : o.guard = none) (hr : Region.ready md ops listed = [i])
    (he : (execOp a.eval o).run P w = .ok (.enter f args) w) (hc : Calls P f args w fun e w' => ∃ v, e = .returned v ∧ R v w') (hS : ∀ v w', R v w' → S w')
    (h : ∀ v w', R v w' → wpAnyH P md ops Q S fuel (listed.setIfInBounds i true) ⟨a.tmps.setIfInBounds d v, a.defers⟩ w') : wpAnyH P md ops Q S (fuel + 1) listed a w := by
  refine wpAnyH_all hr (by simp) fun j hj => ?_
  obtain rfl : j = i := by simpa using hj
  unfold Go.wpOp
  simp only [hi, wanted_free (ops := ops) (x := a.tmps) hg, if_true, Oper.wp, he, Oper.upon]
  refine .inl (hc.mono ?_)
  rintro e w' ⟨v, rfl, hR⟩
  refine ⟨hS v w' hR, ?_⟩
  have := h v w' hR
  rw [hd]
  exact this
theorem Ow.keep8 {k : IntKind} {e : TypeId} {base : Nat} {w w' : World} {v : Value} {zs : List Int} (h : Ow k e base w v zs) (hb : Below w.heap.size w w') : Ow k e base w' v zs := h.kept2 (Kept.none_of_below hb) (fun _ _ h => h)
end Go.Tk
namespace Go.Proofs.YtgajpekolamjbaaDoor
open Go Go.RowKit Go.Tk
theorem Tryd.sizeLvT : (Tryd.prog.info? 71).map (·.size) = some 2 := by kernel_rfl
theorem Tryd.infoU64T : (Tryd.prog.info? 76).map (fun i => (i.zero, i.size, i.bytes)) = some (some (.int .u64 0), 1, 8) := by kernel_rfl
/-- What open's walk holds: the head, the two results, the level that it fills. -/
structure RoS (w W : World) (g4 g6 g7 g10 : Nat) (cs : Nat → Value) (s1 s2 : Value) : Prop where
  r4 : RowC W g4 13 31 cs
  r6 : W.heap[g6]? = some (.cells #[.slice none 0 0, .slice none 0 0] 71 (0, 0))
  r7 : W.heap[g7]? = some (.cells #[.int .i64 0, .int .i64 0] 33 (0, 0))
  r10 : W.heap[g10]? = some (.cells #[s1, s2] 71 (0, 0))
  bl : Below w.heap.size w W
  b6 : w.heap.size ≤ g6
  b7 : w.heap.size ≤ g7
  b10 : w.heap.size ≤ g10
  n67 : g6 ≠ g7
  n610 : g6 ≠ g10
  n710 : g7 ≠ g10
  n410 : g4 ≠ g10
theorem RoS.below {w W W' g4 g6 g7 g10 cs s1 s2} (h : RoS w W g4 g6 g7 g10 cs s1 s2) (hb : Below W.heap.size W W') : RoS w W' g4 g6 g7 g10 cs s1 s2 :=
  ⟨h.r4.below hb, (hb.block _ (lt_of_block h.r6)).trans h.r6, (hb.block _ (lt_of_block h.r7)).trans h.r7, (hb.block _ (lt_of_block h.r10)).trans h.r10, h.bl.trans (hb.mono h.bl.size), h.b6, h.b7, h.b10, h.n67, h.n610, h.n710, h.n410⟩
theorem RoS.kept {S : Nat → Prop} {w W W' g4 g6 g7 g10 cs s1 s2} (h : RoS w W g4 g6 g7 g10 cs s1 s2) (hk : Kept S W W') (hS : ∀ j, S j → W.heap.size ≤ j) : RoS w W' g4 g6 g7 g10 cs s1 s2 :=
  h.below (hk.below (Nat.le_refl _) hS)
theorem RoS.belowB {w W W' g4 g6 g7 g10 cs s1 s2} {B : Nat} (h : RoS w W g4 g6 g7 g10 cs s1 s2) (hb : Below B W W') (hg : g6 < B ∧ g7 < B ∧ w.heap.size ≤ B ∧ g4 < B) (h10 : g10 < B) : RoS w W' g4 g6 g7 g10 cs s1 s2 :=
  ⟨(hb.block _ hg.2.2.2).trans h.r4, (hb.block _ hg.1).trans h.r6, (hb.block _ hg.2.1).trans h.r7, (hb.block _ h10).trans h.r10, h.bl.trans (hb.mono hg.2.2.1), h.b6, h.b7, h.b10, h.n67, h.n610, h.n710, h.n410⟩
theorem RoS.set0 {w W g4 g6 g7 g10 cs s1 s2} (h : RoS w W g4 g6 g7 g10 cs s1 s2) (v : Value) : RoS w (W.setCell ⟨g10, 0, none⟩ v) g4 g6 g7 g10 cs v s2 :=
  ⟨(heap_setCell_other _ _ _ _ (by simpa using h.n410)).trans h.r4, (heap_setCell_other _ _ _ _ (by simpa using h.n610)).trans h.r6, (heap_setCell_other _ _ _ _ (by simpa using h.n710)).trans h.r7, heap_setCell_same _ _ 0 _ _ _ h.r10, h.bl.setCell (p := ⟨g10, 0, none⟩) h.b10 _, h.b6, h.b7, h.b10, h.n67, h.n610, h.n710, h.n410⟩
theorem RoS.set1 {w W g4 g6 g7 g10 cs s1 s2} (h : RoS w W g4 g6 g7 g10 cs s1 s2) (v : Value) : RoS w (W.setCell ⟨g10, 1, none⟩ v) g4 g6 g7 g10 cs s1 v :=
  ⟨(heap_setCell_other _ _ _ _ (by simpa using h.n410)).trans h.r4, (heap_setCell_other _ _ _ _ (by simpa using h.n610)).trans h.r6, (heap_setCell_other _ _ _ _ (by simpa using h.n710)).trans h.r7, heap_setCell_same _ _ 1 _ _ _ h.r10, h.bl.setCell (p := ⟨g10, 1, none⟩) h.b10 _, h.b6, h.b7, h.b10, h.n67, h.n610, h.n710, h.n410⟩
/-- The two results are stored. -/
structure RoT (w W : World) (g6 g7 : Nat) (s1 s2 : Value) (x y : Int) : Prop where
  r6 : ((((W.setCell ⟨g6, 0, none⟩ s1).setCell ⟨g6, 1, none⟩ s2).setCell ⟨g7, 0, none⟩ (.int .i64 x)).setCell ⟨g7, 1, none⟩ (.int .i64 y)).heap[g6]? = some (.cells #[s1, s2] 71 (0, 0))
  r7 : ((((W.setCell ⟨g6, 0, none⟩ s1).setCell ⟨g6, 1, none⟩ s2).setCell ⟨g7, 0, none⟩ (.int .i64 x)).setCell ⟨g7, 1, none⟩ (.int .i64 y)).heap[g7]? = some (.cells #[.int .i64 x, .int .i64 y] 33 (0, 0))
  bl : Below w.heap.size w ((((W.setCell ⟨g6, 0, none⟩ s1).setCell ⟨g6, 1, none⟩ s2).setCell ⟨g7, 0, none⟩ (.int .i64 x)).setCell ⟨g7, 1, none⟩ (.int .i64 y))
  kp : Kept (fun j => j = g6 ∨ j = g7) W ((((W.setCell ⟨g6, 0, none⟩ s1).setCell ⟨g6, 1, none⟩ s2).setCell ⟨g7, 0, none⟩ (.int .i64 x)).setCell ⟨g7, 1, none⟩ (.int .i64 y))
theorem RoS.sto {w W g4 g6 g7 g10 cs s1 s2} (h : RoS w W g4 g6 g7 g10 cs s1 s2) (x y : Int) : RoT w W g6 g7 s1 s2 x y := by
  have h6 := stor2O (u := s1) (v := s2) h.r6
  have h7 : ((W.setCell ⟨g6, 0, none⟩ s1).setCell ⟨g6, 1, none⟩ s2).heap[g7]? = some (.cells #[.int .i64 0, .int .i64 0] 33 (0, 0)) := (heap_setCell_other _ _ _ _ (by simpa using fun e => h.n67 e.symm)).trans ((heap_setCell_other _ _ _ _ (by simpa using fun e => h.n67 e.symm)).trans h.r7)
  refine ⟨(heap_setCell_other _ _ _ _ (by simpa using h.n67)).trans ((heap_setCell_other _ _ _ _ (by simpa using h.n67)).trans h6), stor2O h7, ?_, ?_⟩
  · exact (((h.bl.setCell (p := ⟨g6, 0, none⟩) h.b6 _).setCell (p := ⟨g6, 1, none⟩) h.b6 _).setCell (p := ⟨g7, 0, none⟩) h.b7 _).setCell (p := ⟨g7, 1, none⟩) h.b7 _
  · exact ((((Kept.refl _ W).setCell (p := ⟨g6, 0, none⟩) (.inl (.inl rfl)) _).setCell (p := ⟨g6, 1, none⟩) (.inl (.inl rfl)) _).setCell (p := ⟨g7, 0, none⟩) (.inl (.inr rfl)) _).setCell (p := ⟨g7, 1, none⟩) (.inl (.inr rfl)) _
structure RoF (W : World) (g6 g7 g10 : Nat) (s1 s2 : Value) : Prop where
  a0 : W.cell? ⟨g10, 0, none⟩ = some s1
  a1 : W.cell? ⟨g10, 1, none⟩ = some s2
  b0 : W.cell? ⟨g6, 0, none⟩ = some (.slice none 0 0)
  b1 : W.cell? ⟨g6, 1, none⟩ = some (.slice none 0 0)
  p0 : W.frozen? ⟨g6, 0, none⟩ = false
  p1 : W.frozen? ⟨g6, 1, none⟩ = false
  c0 : ((W.setCell ⟨g6, 0, none⟩ s1).setCell ⟨g6, 1, none⟩ s2).cell? ⟨g7, 0, none⟩ = some (.int .i64 0)
  c1 : ((W.setCell ⟨g6, 0, none⟩ s1).setCell ⟨g6, 1, none⟩ s2).cell? ⟨g7, 1, none⟩ = some (.int .i64 0)
  q0 : ((W.setCell ⟨g6, 0, none⟩ s1).setCell ⟨g6, 1, none⟩ s2).frozen? ⟨g7, 0, none⟩ = false
  q1 : ((W.setCell ⟨g6, 0, none⟩ s1).setCell ⟨g6, 1, none⟩ s2).frozen? ⟨g7, 1, none⟩ = false
theorem RoS.fs {w W g4 g6 g7 g10 cs s1 s2} (h : RoS w W g4 g6 g7 g10 cs s1 s2) : RoF W g6 g7 g10 s1 s2 := by
  have h7 : ((W.setCell ⟨g6, 0, none⟩ s1).setCell ⟨g6, 1, none⟩ s2).heap[g7]? = some (.cells #[.int .i64 0, .int .i64 0] 33 (0, 0)) := (heap_setCell_other _ _ _ _ (by simpa using fun e => h.n67 e.symm)).trans ((heap_setCell_other _ _ _ _ (by simpa using fun e => h.n67 e.symm)).trans h.r7)
  exact ⟨cellT0 h.r10, cellT1 h.r10, cellT0 h.r6, cellT1 h.r6, frozen_of_row _ _ 0 _ _ h.r6, frozen_of_row _ _ 1 _ _ h.r6, cellT0 h7, cellT1 h7, frozen_of_row _ _ 0 _ _ h7, frozen_of_row _ _ 1 _ _ h7⟩
def slLen : Value → Nat
  | .slice _ l _ => l
  | _ => 0
theorem owB_kept {S : Nat → Prop} {e : TypeId} {base : Nat} {w w' : World} {v : Value} {l : List Bool} (h : OwB e base w v l) (hk : Kept S w w') (hv : ∀ g, v.ownBlock = some g → ¬ S g) : OwB e base w' v l := by
  refine ⟨h.1, ?_⟩
  rcases h.2 with hn | ⟨g, cap, cur, rfl, hbg, hgg, rest⟩
  · exact .inl hn
  · exact .inr ⟨g, cap, cur, rfl, hbg, (hk.block g (Array.getElem?_eq_some_iff.1 hgg).1 (hv g rfl)).trans hgg, rest⟩
/-- The numbers of a level; the bits. -/
def nmT (b : List UInt8) (k j : Nat) : List Int := (List.range j).map fun i => ((tM b k i : Nat) : Int)
theorem nmT_len (b : List UInt8) (k j : Nat) : (nmT b k j).length = j := by simp [nmT]
theorem nmT_at (b : List UInt8) (k : Nat) {j i : Nat} (h : i < j) : (nmT b k j).getD i 0 = ((tM b k i : Nat) : Int) := by
  unfold nmT
  rw [List.getD_eq_getElem?_getD, List.getElem?_map, List.getElem?_range h]; rfl
theorem nmT_snoc (b : List UInt8) (k j : Nat) : nmT b k (j + 1) = nmT b k j ++ [((tM b k j : Nat) : Int)] := by unfold nmT; rw [List.range_succ, List.map_append]; rfl
theorem tM_lt (b : List UInt8) (k i : Nat) (h : tW b k ≤ 23) : tM b k i < 8388608 := numF_lt (tP b k) (tW b k) i h
theorem tM_zero (b : List UInt8) (k i : Nat) (h : tW b k = 0) : tM b k i = 0 := by unfold tM numF; rw [h]; simp [Nat.mod_one]
theorem numF_numT (P : List UInt8) {wd : Nat} (h : wd ≤ 23) (i : Nat) : numF P wd i = Go.Tk.numT (nums P) wd i wd := by
  apply Nat.eq_of_testBit_eq
  intro j
  have acB_bit : ∀ (l : List UInt8) (p : Nat) (K q : Nat), (acB l p K).testBit q = (decide (q < 8 * K) && btB l (8 * p + q)) := by
    intro l p K
    induction K with
    | zero => intro q; simp [acB]
    | succ K ih =>
      intro q
      have h := acB_lt l p K
      simp only [acB]
      rw [Nat.add_comm, Nat.mul_comm, Nat.testBit_two_pow_mul_add _ h]
      by_cases hq : q < 8 * K
      · rw [if_pos hq, ih q, decide_eq_true hq, decide_eq_true (show q < 8 * (K + 1) by omega)]
      · rw [if_neg hq]
        by_cases h8 : q < 8 * (K + 1)
        · rw [decide_eq_true h8, Bool.true_and]
          unfold btB
          rw [show (8 * p + q) / 8 = p + K by omega, show (8 * p + q) % 8 = q - 8 * K by omega]
        · rw [decide_eq_false h8, Bool.false_and]
          exact Nat.testBit_lt_two_pow (Nat.lt_of_lt_of_le (UInt8.toNat_lt _) (Nat.pow_le_pow_right (by decide) (by omega : 8 ≤ q - 8 * K)))
  have bitI_nums : ∀ (l : List UInt8) (q : Nat), bitI (nums l) q = btB l q := by
    intro l q
    unfold bitI btB
    congr 1
    by_cases h : q / 8 < l.length
    · simp [nums, h]
    · simp [nums, h]
  rw [numT_bit, bitI_nums]
  unfold numF
  rw [Nat.testBit_mod_two_pow, Nat.testBit_div_two_pow, acB_bit]
  by_cases hj : j < wd
  · rw [decide_eq_true hj, Bool.true_and, Bool.true_and, decide_eq_true (by omega), Bool.true_and]
    congr 1; omega
  · rw [decide_eq_false hj, Bool.false_and, Bool.false_and]
/-- What the document's open hands back. -/
def RopR (w : World) (b : List UInt8) (k : Nat) (e : Ending) (w' : World) : Prop :=
  ∃ (s1 s2 : Value) (x y : Nat), (lkU b k → OpenQ (tB b k) x y) ∧ e = .returned (.tuple #[.agg #[s1, s2], flT (lkE b k x y)]) ∧
    ((lkE b k x y).1 = 0 → Ow .u64 76 w.heap.size w' s1 (nmT b k (tN b k)) ∧ (0 < k → OwB 4 w.heap.size w' s2 ((List.range (tN b k)).map (tBit b k)))) ∧
    ((∃ a n c, s1 = .slice a n c) ∧ ∃ a n c, s2 = .slice a n c) ∧ Below w.heap.size w w'
set_option maxRecDepth 100000 in
set_option maxHeartbeats 16000000 in
theorem rlopen_calls (w : World) (a : Option Addr) (c : Nat) (b : List UInt8) (hs : SlI .u8 w a b.length c (nums b)) (cs : Nat → Value) (hcs : ∀ i, i < 13 → cs i = hvT b i) (k : Nat) (hk : k < 4) (hC : CnOk b k) (hL : LvOk b k) (hlen : b.length ≤ 140737488355328) :
    Calls Tryd.prog 23 #[.slice a b.length c, .agg (rowC 13 cs), .int .i64 (k : Nat)] w (RopR w b k) := by
  have hle := hs.le
  have hmx := hs.max
  have HI2 := Lib.hid Tryd.sizeFlT
  have HIL := Lib.hid Tryd.sizeLvT
  have HS := Lib.hid hs
  have HCS := Lib.hid hcs
  have HC := Lib.hid hC
  have HL := Lib.hid hL
  obtain ⟨n, hn⟩ : ∃ n, n = tN b k := ⟨_, rfl⟩
  obtain ⟨A, hA⟩ : ∃ A, A = tA b k := ⟨_, rfl⟩
  obtain ⟨E, hE⟩ : ∃ E, E = tE b k := ⟨_, rfl⟩
  obtain ⟨wd, hwd⟩ : ∃ wd, wd = tW b k := ⟨_, rfl⟩
  have vC : cs k = .int .i64 (n : Nat) := by rw [hcs _ (by omega), hn]; unfold hvT hvN; rw [if_neg (by omega), if_pos hk]
  have vW : cs (4 + k) = .int .i64 (A : Nat) := by rw [hcs _ (by omega), hA]; unfold hvT hvN; rw [if_neg (by omega), if_neg (by omega), if_pos (by omega), if_pos (by omega), show 4 + k - 4 = k by omega]
  have vV : cs (8 + k) = .int .i64 (E : Nat) := by rw [hcs _ (by omega), hE]; unfold hvT hvN; rw [if_neg (by omega), if_neg (by omega), if_neg (by omega), if_pos (by omega), if_pos (by omega), show 8 + k - 8 = k by omega]
  have VC := Lib.hid vC
  have VW := Lib.hid vW
  have VV := Lib.hid vV
  have hnb : n ≤ 1048576 := by rw [hn]; exact hC.le
  have hwb : wd ≤ 23 := by rw [hwd]; exact hL.wd
  have hAl : A < b.length := by rw [hA]; exact hL.lt
  have hAE : A + 1 ≤ E := by rw [hA, hE]; exact tE_ge b k
  have hEl : E ≤ b.length := by rw [hE]; exact Nat.le_trans (tX_ge b k) hL.en
  have hEw : E = A + 1 + (n * wd + 7) / 8 := by rw [hE, hA, hn, hwd]; rfl
  have HN := Lib.hid hn
  have HA := Lib.hid hA
  have HE := Lib.hid hE
  have HWD := Lib.hid hwd
  obtain ⟨pz, hpz⟩ : ∃ pz, pz = nums (tP b k) := ⟨_, rfl⟩
  have hpc : ((nums b).drop (A + 1)).take (E - (A + 1)) = pz := by rw [hpz]; unfold tP; rw [hA, hE, nums_cut]
  have hpl : pz.length = (n * wd + 7) / 8 := by rw [← hpc, List.length_take, List.length_drop, nums_len]; omega
  have hpu : U8 pz := fun i hi => by
    have := nums_u8 (tP b k) pz[i] (by rw [← hpz]; exact List.getElem_mem hi)
    simpa [hi] using this
  obtain ⟨OE, hOE⟩ : ∃ z, z = opErr pz (n : Nat) (wd : Nat) := ⟨_, rfl⟩
  have H2E := Lib.hid (show OE = 0 ∨ OE = 12 by rw [hOE]; exact opErr_two (by omega) (by omega) hpl)
  have HPZ := Lib.hid hpz
  have HPC := Lib.hid hpc
  have HPU := Lib.hid hpu
  have HOE := Lib.hid hOE
  have hr0 : RoS w (((w.alloc (.cells (rowC 13 cs) 31)).alloc (.cells #[.slice none 0 0, .slice none 0 0] 71)).alloc (.cells #[.int .i64 0, .int .i64 0] 33)) w.heap.size (w.heap.size + 1) (w.heap.size + 2) (w.heap.size + 3) cs (.slice none 0 0) (.slice none 0 0) → True := fun _ => trivial
  have hb1 : Below w.heap.size w (((w.alloc (.cells (rowC 13 cs) 31)).alloc (.cells #[.slice none 0 0, .slice none 0 0] 71)).alloc (.cells #[.int .i64 0, .int .i64 0] 33)) := (((Below.refl _ w).alloc (Nat.le_refl _) _).alloc (by simp) _).alloc (by simp; omega) _
  have hrow : RowC (((w.alloc (.cells (rowC 13 cs) 31)).alloc (.cells #[.slice none 0 0, .slice none 0 0] 71)).alloc (.cells #[.int .i64 0, .int .i64 0] 33)) w.heap.size 13 31 cs := (Below.heap_alloc _ _ _ (by simp; omega)).trans ((Below.heap_alloc _ _ _ (by simp)).trans (heap_alloc_new _ _))
  have hr6 : (((w.alloc (.cells (rowC 13 cs) 31)).alloc (.cells #[.slice none 0 0, .slice none 0 0] 71)).alloc (.cells #[.int .i64 0, .int .i64 0] 33)).heap[w.heap.size + 1]? = some (.cells #[.slice none 0 0, .slice none 0 0] 71 (0, 0)) := by
    have := heap_alloc_new (w.alloc (.cells (rowC 13 cs) 31)) (.cells #[.slice none 0 0, .slice none 0 0] 71)
    exact (Below.heap_alloc _ _ _ (by simp)).trans (by simpa using this)
  have hr7 : (((w.alloc (.cells (rowC 13 cs) 31)).alloc (.cells #[.slice none 0 0, .slice none 0 0] 71)).alloc (.cells #[.int .i64 0, .int .i64 0] 33)).heap[w.heap.size + 2]? = some (.cells #[.int .i64 0, .int .i64 0] 33 (0, 0)) := by
    have := heap_alloc_new ((w.alloc (.cells (rowC 13 cs) 31)).alloc (.cells #[.slice none 0 0, .slice none 0 0] 71)) (.cells #[.int .i64 0, .int .i64 0] 33)
    simpa using this
  have hz1 : (((w.alloc (.cells (rowC 13 cs) 31)).alloc (.cells #[.slice none 0 0, .slice none 0 0] 71)).alloc (.cells #[.int .i64 0, .int .i64 0] 33)).heap.size = w.heap.size + 3 := by simp
  clear hs hcs hC hL vC vW vV hn hA hE hwd hpz hpc hpl hpu hOE hr0 hEw
  go_enter Tryd.func23, Tryd.ntmps23
  go_upto_region 1 with fail
  generalize ((w.alloc (.cells (rowC 13 cs) 31)).alloc (.cells #[.slice none 0 0, .slice none 0 0] 71)).alloc (.cells #[.int .i64 0, .int .i64 0] 33) = w1 at hb1 hrow hr6 hr7 hz1 ⊢
  have e4 : w1.cell? ⟨w.heap.size, 4 + k, none⟩ = some (.int .i64 (A : Nat)) := by rw [hrow.cell (by omega), VW.out]
  obtain ⟨bb, bo, hab, hcb⟩ := (HS.out.keep hb1).cell A hAl
  subst hab
  have hcb2 : w1.cell? ⟨bb, bo + A, none⟩ = some (.int .u8 (wd : Nat)) := by
    rw [hcb, HWD.out, HA.out]
    unfold tW bAt nums
    have hA2 := hAl
    rw [HA.out] at hA2
    simp [hA2]
  have hwl : wd < 256 := by omega
  have HB1 := Lib.hid hb1
  have HROW := Lib.hid hrow
  have HR6 := Lib.hid hr6
  have HR7 := Lib.hid hr7
  have HZ1 := Lib.hid hz1
  clear hb1 hrow hr6 hr7 hz1 hcb
  go_upto_region 4 with fail
  clear e4 hcb2
  have hz1 := HZ1.out
  have hr10 := heap_alloc_new w1 (.cells #[.slice none 0 0, .slice none 0 0] 71)
  have hb12 := (Below.refl w1.heap.size w1).alloc (Nat.le_refl _) (.cells #[.slice none 0 0, .slice none 0 0] 71)
  have hro : RoS w (w1.alloc (.cells #[.slice none 0 0, .slice none 0 0] 71)) w.heap.size (w.heap.size + 1) (w.heap.size + 2) w1.heap.size cs (.slice none 0 0) (.slice none 0 0) :=
    ⟨HROW.out.below hb12, (hb12.block _ (lt_of_block HR6.out)).trans HR6.out, (hb12.block _ (lt_of_block HR7.out)).trans HR7.out, hr10, HB1.out.trans (hb12.mono HB1.out.size), by omega, by omega, by omega, by omega, by omega, by omega, by omega⟩
  have hz2 : (w1.alloc (.cells #[.slice none 0 0, .slice none 0 0] 71)).heap.size = w1.heap.size + 1 := by simp
  generalize w1.alloc (.cells #[.slice none 0 0, .slice none 0 0] 71) = w2 at hro hz2 ⊢
  obtain ⟨g10, hg10⟩ : ∃ g, g = w1.heap.size := ⟨_, rfl⟩
  rw [← hg10] at hro hz2 ⊢
  obtain ⟨g4, hg4⟩ : ∃ g, g = w.heap.size := ⟨_, rfl⟩
  obtain ⟨g6, hg6⟩ : ∃ g, g = w.heap.size + 1 := ⟨_, rfl⟩
  rw [show w.heap.size + 2 = w.heap.size + 1 + 1 from rfl, ← hg6] at hro
  rw [← hg6]
  obtain ⟨g7, hg7⟩ : ∃ g, g = g6 + 1 := ⟨_, rfl⟩
  rw [← hg7] at hro ⊢
  have hro2 : RoS w w2 g4 g6 g7 g10 cs (.slice none 0 0) (.slice none 0 0) := by rw [hg4]; exact hro
  rw [← hg4] at ⊢
  have HRO := Lib.hid hro2
  have HZ2 := Lib.hid hz2
  have HGS := Lib.hid (show g6 < g10 + 1 ∧ g7 < g10 + 1 ∧ w.heap.size ≤ g10 + 1 ∧ g4 < g10 + 1 by omega)
  clear hro hro2 hz1 hr10 hb12 hz2 hg10 hg4 hg6 hg7 HB1 HROW HR6 HR7 HZ1
  -- the packed numbers are opened
  obtain ⟨aa, haa⟩ : ∃ aa : Option Addr, aa = some ⟨bb, bo, none⟩ := ⟨_, rfl⟩
  rw [← haa] at HS ⊢
  clear haa
  obtain ⟨A1, hA1⟩ : ∃ A1, A1 = A + 1 := ⟨_, rfl⟩
  have hA1i : (A : Int) + 1 = (A1 : Int) := by omega
  have hA1w : IntKind.i64.wrap (A1 : Int) = (A1 : Int) := by rw [IntKind.wrap_i64]; omega
  have hAE1 : A1 ≤ E := by omega
  have hki : ¬ (4 : Int) ≤ (k : Int) := by omega
  have hpc := HPC.out
  rw [← hA1] at hpc
  obtain ⟨A4, hA4⟩ : ∃ A4, A4 = (if c = A1 then aa else Option.map (fun x => x.add A1) aa) := ⟨_, rfl⟩
  obtain ⟨mo, hmo⟩ : ∃ mo, mo = E - A1 := ⟨_, rfl⟩
  obtain ⟨c4, hc4⟩ : ∃ c4, c4 = c - A1 := ⟨_, rfl⟩
  have hcut := fun W (hb : Below w.heap.size w W) => SlI.cut (HS.out.keep hb) A1 (E - A1) (by omega)
  simp only [hpc, show A1 + (E - A1) - A1 = E - A1 by omega] at hcut
  rw [← hA4, ← hmo, ← hc4] at hcut
  have hA4' := hA4.symm
  have hmo' := hmo.symm
  have hc4' := hc4.symm
  have hEc : E ≤ c := by omega
  have HOP := Lib.hid (fun W (hb : Below w.heap.size w W) => ropen_calls W A4 mo c4 pz (hcut W hb) HPU.out (n : Nat) (wd : Nat))
  have HA1 := Lib.hid hA1
  clear hcut hA4 hmo hc4 hpc hA1
  have hs4 : RowC w2.drew g4 13 31 cs := HRO.out.r4
  have HRO3 := Lib.hid (HRO.out.below (Below.drew (Below.refl w2.heap.size w2)))
  have HOP3 := Lib.hid (HOP.out w2.drew HRO3.out.bl)
  have hzd : w2.drew.heap.size = g10 + 1 := HZ2.out
  have HZD := Lib.hid hzd
  clear hzd
  refine wh_startN (S := fun W => RowC W g4 13 31 cs) 19 rfl (by kernel_rfl) ?_
  generalize w2.drew = w3 at hs4 HRO3 HOP3 HZD ⊢
  refine wh_takeD 0 27 (.slice aa b.length c) rfl rfl rfl (by kernel_rfl) (by kernel_rfl) (by kernel_rfl) (fun _ _ _ _ h => h) hs4 (fun w' h => by simp [go_sem]) ?_
  simp only [List.setIfInBounds_toArray, List.set_cons_succ, List.set_cons_zero]
  refine wh_takeD 1 28 (.int .i64 (A : Nat)) rfl rfl rfl (by kernel_rfl) (by kernel_rfl) (by kernel_rfl) (fun _ _ _ _ h => h) hs4 (fun w' h => by simp [go_sem]) ?_
  simp only [List.setIfInBounds_toArray, List.set_cons_succ, List.set_cons_zero]
  refine wh_takeD 2 29 (.int .i64 (A1 : Nat)) rfl rfl rfl (by kernel_rfl) (by kernel_rfl) (by kernel_rfl) (fun _ _ _ _ h => h) hs4 (fun w' h => by simp [go_sem, hA1i, hA1w]) ?_
  simp only [List.setIfInBounds_toArray, List.set_cons_succ, List.set_cons_zero]
  refine wh_takeD 3 30 (.int .i64 (k : Nat)) rfl rfl rfl (by kernel_rfl) (by kernel_rfl) (by kernel_rfl) (fun _ _ _ _ h => h) hs4 (fun w' h => by simp [go_sem]) ?_
  simp only [List.setIfInBounds_toArray, List.set_cons_succ, List.set_cons_zero]
  refine wh_takeD 4 31 (.pointer (some ⟨g4, 8, none⟩)) rfl rfl rfl (by kernel_rfl) (by kernel_rfl) (by kernel_rfl) (fun _ _ _ _ h => h) hs4 (fun w' h => by simp [go_sem]) ?_
  simp only [List.setIfInBounds_toArray, List.set_cons_succ, List.set_cons_zero]
  refine wh_takeD 5 32 (.pointer (some ⟨g4, 8 + k, none⟩)) rfl rfl rfl (by kernel_rfl) (by kernel_rfl) (by kernel_rfl) (fun _ _ _ _ h => h) hs4 (fun w' h => by simp [go_sem, hk, hki]) ?_
  simp only [List.setIfInBounds_toArray, List.set_cons_succ, List.set_cons_zero]
  refine wh_takeD 6 33 (.int .i64 (E : Nat)) rfl rfl rfl (by kernel_rfl) (by kernel_rfl) (by kernel_rfl) (fun _ _ _ _ h => h) hs4 (fun w' h => by have k1 := RowC.cell h (i := 8 + k) (by omega); rw [VV.out] at k1; simp [go_sem, k1]) ?_
  simp only [List.setIfInBounds_toArray, List.set_cons_succ, List.set_cons_zero]
  refine wh_takeD 7 34 (.slice A4 mo c4) rfl rfl rfl (by kernel_rfl) (by kernel_rfl) (by kernel_rfl) (fun _ _ _ _ h => h) hs4 (fun w' h => by simp [go_sem, hAE1, hEc, hA4', hmo', hc4']) ?_
  simp only [List.setIfInBounds_toArray, List.set_cons_succ, List.set_cons_zero]
  refine wh_takeD 8 35 (.int .i64 (k : Nat)) rfl rfl rfl (by kernel_rfl) (by kernel_rfl) (by kernel_rfl) (fun _ _ _ _ h => h) hs4 (fun w' h => by simp [go_sem]) ?_
  simp only [List.setIfInBounds_toArray, List.set_cons_succ, List.set_cons_zero]
  refine wh_takeD 9 36 (.pointer (some ⟨g4, 0, none⟩)) rfl rfl rfl (by kernel_rfl) (by kernel_rfl) (by kernel_rfl) (fun _ _ _ _ h => h) hs4 (fun w' h => by simp [go_sem]) ?_
  simp only [List.setIfInBounds_toArray, List.set_cons_succ, List.set_cons_zero]
  refine wh_takeD 10 37 (.pointer (some ⟨g4, k, none⟩)) rfl rfl rfl (by kernel_rfl) (by kernel_rfl) (by kernel_rfl) (fun _ _ _ _ h => h) hs4 (fun w' h => by simp [go_sem, hk, hki]) ?_
  simp only [List.setIfInBounds_toArray, List.set_cons_succ, List.set_cons_zero]
  refine wh_takeD 11 38 (.int .i64 (n : Nat)) rfl rfl rfl (by kernel_rfl) (by kernel_rfl) (by kernel_rfl) (fun _ _ _ _ h => h) hs4 (fun w' h => by have k1 := RowC.cell h (i := k) (by omega); rw [VC.out] at k1; simp [go_sem, k1]) ?_
  simp only [List.setIfInBounds_toArray, List.set_cons_succ, List.set_cons_zero]
  refine wh_takeD 12 39 (.int .i64 (wd : Nat)) rfl rfl rfl (by kernel_rfl) (by kernel_rfl) (by kernel_rfl) (fun _ _ _ _ h => h) hs4 (fun w' h => by simp [go_sem]) ?_
  simp only [List.setIfInBounds_toArray, List.set_cons_succ, List.set_cons_zero]
  refine wh_callxD 13 40 (fun v W => ∃ v7, v = .tuple #[v7, .int .i64 OE] ∧ Below w3.heap.size w3 W ∧ (OE = 0 → (wd : Int) ≠ 0 → ∃ g, v7 = .slice (some ⟨g, 0, none⟩) n n ∧ w3.heap.size ≤ g ∧ RowI .u64 76 W g (fillT pz wd n n 0)) ∧ (OE ≠ 0 ∨ (wd : Int) = 0 → v7 = .slice none 0 0)) rfl rfl rfl (by kernel_rfl) (by simp [go_sem]) (HOP3.out.mono fun e W ⟨v, h1, h2, h3, h4⟩ => ⟨_, h1, v, by rw [HOE.out], h2, by rw [HOE.out]; exact h3, by rw [HOE.out]; exact h4⟩) (fun v W h => by obtain ⟨_, _, h2, _⟩ := h; exact hs4.below h2) ?_
  rintro _ w5 ⟨v7, rfl, hb5, hyes, hno⟩
  have hs6 := hs4.below hb5
  simp only [List.setIfInBounds_toArray, List.set_cons_succ, List.set_cons_zero]
  refine wh_takeD 14 26 (.tuple #[v7, .int .i64 OE]) rfl rfl rfl (by kernel_rfl) (by kernel_rfl) (by kernel_rfl) (fun _ _ _ _ h => h) hs6 (fun w' h => by simp [go_sem]) ?_
  simp only [List.setIfInBounds_toArray, List.set_cons_succ, List.set_cons_zero]
  refine wh_takeD 15 41 (v7) rfl rfl rfl (by kernel_rfl) (by kernel_rfl) (by kernel_rfl) (fun _ _ _ _ h => h) hs6 (fun w' h => by simp [go_sem]) ?_
  simp only [List.setIfInBounds_toArray, List.set_cons_succ, List.set_cons_zero]
  refine wh_takeD 16 42 (.int .i64 OE) rfl rfl rfl (by kernel_rfl) (by kernel_rfl) (by kernel_rfl) (fun _ _ _ _ h => h) hs6 (fun w' h => by simp [go_sem]) ?_
  simp only [List.setIfInBounds_toArray, List.set_cons_succ, List.set_cons_zero]
  refine wh_takeD 17 11 (v7) rfl rfl rfl (by kernel_rfl) (by kernel_rfl) (by kernel_rfl) (fun _ _ _ _ h => h) hs6 (fun w' h => by simp [go_sem]) ?_
  simp only [List.setIfInBounds_toArray, List.set_cons_succ, List.set_cons_zero]
  refine wh_takeD 18 12 (.int .i64 OE) rfl rfl rfl (by kernel_rfl) (by kernel_rfl) (by kernel_rfl) (fun _ _ _ _ h => h) hs6 (fun w' h => by simp [go_sem]) ?_
  simp only [List.setIfInBounds_toArray, List.set_cons_succ, List.set_cons_zero]
  refine wpAnyH_done (by kernel_rfl) ?_ 0
  have HRO5 := Lib.hid (HRO3.out.below hb5)
  have HZ5 := Lib.hid (show g10 + 1 ≤ w5.heap.size by have := hb5.size; have := HZD.out; omega)
  have HYES := Lib.hid hyes
  have HNO := Lib.hid hno
  have HZ3 := Lib.hid (show g10 + 1 ≤ w3.heap.size by have := HZD.out; omega)
  clear hb5 hyes hno hs4 hs6 HRO HRO3 HOP HOP3 hA4' hmo' hc4' hEc HZD HZ2 hA1i hA1w
  go_upto_region 5 with fail
  rcases H2E.out with hE0 | hE12
  rotate_left
  · subst hE12
    obtain ⟨E1, hE1⟩ : ∃ E1, E = E1 + 1 := ⟨E - 1, by omega⟩
    have HEV := Lib.hid (show lkE b k 0 0 = (12, E1) by
      unfold lkE
      rw [← HPZ.out, ← HN.out, ← HWD.out, ← HOE.out, if_pos (by decide), ← HE.out, hE1]; rfl)
    have hE2 : (E : Int) - 1 = (E1 : Int) := by omega
    have hE3 : IntKind.i64.wrap (E1 : Int) = (E1 : Int) := by rw [IntKind.wrap_i64]; omega
    go_upto_region 6 with fail
    have HRD := Lib.hid (HRO5.out.below (Below.drew (Below.refl w5.heap.size w5)))
    refine wh_startN (S := fun W => RowC W g4 13 31 cs ∧ W.heap[g10]? = some (.cells #[.slice none 0 0, .slice none 0 0] 71 (0, 0))) 9 rfl (by kernel_rfl) ?_
    generalize w5.drew = w6 at HRD ⊢
    refine wh_takeD 0 45 (.agg #[.slice none 0 0, .slice none 0 0]) rfl rfl rfl (by kernel_rfl) (by kernel_rfl) (by kernel_rfl) (fun _ _ _ _ h => h) ⟨HRD.out.r4, HRD.out.r10⟩ (fun w' h => by exact run_load_row 71 _ rfl g10 rfl 71 _ _ _ w' h.2 Tryd.underlying71 rfl HIL.out) ?_
    simp only [List.setIfInBounds_toArray, List.set_cons_succ, List.set_cons_zero]
    refine wh_takeD 1 46 (.int .i64 (k : Nat)) rfl rfl rfl (by kernel_rfl) (by kernel_rfl) (by kernel_rfl) (fun _ _ _ _ h => h) ⟨HRD.out.r4, HRD.out.r10⟩ (fun w' h => by simp [go_sem]) ?_
    simp only [List.setIfInBounds_toArray, List.set_cons_succ, List.set_cons_zero]
    refine wh_takeD 2 47 (.pointer (some ⟨g4, 8, none⟩)) rfl rfl rfl (by kernel_rfl) (by kernel_rfl) (by kernel_rfl) (fun _ _ _ _ h => h) ⟨HRD.out.r4, HRD.out.r10⟩ (fun w' h => by simp [go_sem]) ?_
    simp only [List.setIfInBounds_toArray, List.set_cons_succ, List.set_cons_zero]
    refine wh_takeD 3 48 (.pointer (some ⟨g4, 8 + k, none⟩)) rfl rfl rfl (by kernel_rfl) (by kernel_rfl) (by kernel_rfl) (fun _ _ _ _ h => h) ⟨HRD.out.r4, HRD.out.r10⟩ (fun w' h => by simp [go_sem, hk, hki]) ?_
    simp only [List.setIfInBounds_toArray, List.set_cons_succ, List.set_cons_zero]
    refine wh_takeD 4 49 (.int .i64 (E : Nat)) rfl rfl rfl (by kernel_rfl) (by kernel_rfl) (by kernel_rfl) (fun _ _ _ _ h => h) ⟨HRD.out.r4, HRD.out.r10⟩ (fun w' h => by have k1 := RowC.cell h.1 (i := 8 + k) (by omega); rw [VV.out] at k1; simp [go_sem, k1]) ?_
    simp only [List.setIfInBounds_toArray, List.set_cons_succ, List.set_cons_zero]
    refine wh_takeD 5 50 (.int .i64 (E1 : Nat)) rfl rfl rfl (by kernel_rfl) (by kernel_rfl) (by kernel_rfl) (fun _ _ _ _ h => h) ⟨HRD.out.r4, HRD.out.r10⟩ (fun w' h => by simp [go_sem, hE2, hE3]) ?_
    simp only [List.setIfInBounds_toArray, List.set_cons_succ, List.set_cons_zero]
    refine wh_takeD 6 51 (.agg #[.int .i64 (E1 : Nat), .int .i64 12]) rfl rfl rfl (by kernel_rfl) (by kernel_rfl) (by kernel_rfl) (fun _ _ _ _ h => h) ⟨HRD.out.r4, HRD.out.r10⟩ (fun w' h => by kernel_rfl) ?_
    simp only [List.setIfInBounds_toArray, List.set_cons_succ, List.set_cons_zero]
    have h46 : g4 ≠ g6 := fun e => by have h1 := HRD.out.r4; have h2 := HRD.out.r6; rw [e] at h1; have := h1.symm.trans h2; simp at this
    have h47 : g4 ≠ g7 := fun e => by have h1 := HRD.out.r4; have h2 := HRD.out.r7; rw [e] at h1; have := h1.symm.trans h2; simp at this
    refine wh_skipD 7 (w' := w6.setRow g6 #[.slice none 0 0, .slice none 0 0]) rfl rfl rfl (by kernel_rfl) (by exact run_store_rowO 71 _ _ rfl g6 _ (by simp [go_sem]) (by simp [go_sem]) 71 _ HRD.out.r6 HIL.out rfl (by simp [Value.oneCell'])) ⟨(setRow_other _ _ _ _ h46).trans HRD.out.r4, (setRow_other _ _ _ _ (fun e => HRD.out.n610 e.symm)).trans HRD.out.r10⟩ ?_
    refine wh_skipD 8 (w' := (w6.setRow g6 #[.slice none 0 0, .slice none 0 0]).setRow g7 #[.int .i64 (E1 : Nat), .int .i64 12]) rfl rfl rfl (by kernel_rfl) (by exact run_store_rowO 33 _ _ rfl g7 _ (by simp [go_sem]) (by simp [go_sem]) 33 _ ((setRow_other _ _ _ _ (fun e => HRD.out.n67 e.symm)).trans HRD.out.r7) HI2.out rfl (by simp [Value.oneCell'])) ⟨(setRow_other _ _ _ _ h47).trans ((setRow_other _ _ _ _ h46).trans HRD.out.r4), (setRow_other _ _ _ _ (fun e => HRD.out.n710 e.symm)).trans ((setRow_other _ _ _ _ (fun e => HRD.out.n610 e.symm)).trans HRD.out.r10)⟩ ?_
    refine wpAnyH_done (by kernel_rfl) ?_ 0
    have n1 : ((w6.setRow g6 #[.slice none 0 0, .slice none 0 0]).setRow g7 #[.int .i64 (E1 : Nat), .int .i64 12]).heap[g6]? = some (.cells #[.slice none 0 0, .slice none 0 0] 71 (0, 0)) := (setRow_other _ _ _ _ HRD.out.n67).trans (setRow_heap _ g6 _ _ _ _ HRD.out.r6)
    have n2 := setRow_heap (w6.setRow g6 #[.slice none 0 0, .slice none 0 0]) g7 _ #[.int .i64 (E1 : Nat), .int .i64 12] _ _ ((setRow_other _ _ _ _ (fun e => HRD.out.n67 e.symm)).trans HRD.out.r7)
    have n3 : Below w.heap.size w ((w6.setRow g6 #[.slice none 0 0, .slice none 0 0]).setRow g7 #[.int .i64 (E1 : Nat), .int .i64 12]) := below_setRow (below_setRow HRD.out.bl HRD.out.b6 _) HRD.out.b7 _
    generalize (w6.setRow g6 #[.slice none 0 0, .slice none 0 0]).setRow g7 #[.int .i64 (E1 : Nat), .int .i64 12] = w7 at n1 n2 n3 ⊢
    have HN1 := Lib.hid n1
    have HN2 := Lib.hid n2
    have HN3 := Lib.hid n3
    clear n1 n2 n3 hE2 hE3 hE1 h46 h47
    simp only [go_sem, List.setIfInBounds_toArray, List.set_cons_succ, List.set_cons_zero]
    go_wp2
    refine bodyPost_ret (results_cc rfl _ _ g6 g7 _ _ _ _ _ _ _ _ rfl HN1.out rfl HN2.out Tryd.underlying71 rfl HIL.out Tryd.underlying33 rfl HI2.out) rfl ⟨.slice none 0 0, .slice none 0 0, 0, 0, (fun h => by have := h.2.2.1; rw [← HPZ.out, ← HN.out, ← HWD.out, ← HOE.out] at this; cases this), ?_, (fun h => by rw [HEV.out] at h; cases h), ⟨⟨_, _, _, rfl⟩, _, _, _, rfl⟩, HN3.out⟩
    rw [HEV.out]; rfl
  subst hE0
  -- the numbers, filled up
  have hstart : ∃ j, j ≤ n ∧ (j = n ∨ wd = 0) ∧ Ow .u64 76 (g10 + 1) w5 v7 (nmT b k j) := by
    rcases Nat.eq_zero_or_pos wd with h0 | h0
    · refine ⟨0, Nat.zero_le _, .inr h0, ?_⟩
      rw [HNO.out (.inr (by omega))]
      exact Ow.nil _ _ _ _
    · obtain ⟨g, hv, hg, hrw⟩ := HYES.out rfl (by omega)
      refine ⟨n, Nat.le_refl _, .inl rfl, ?_⟩
      have hz : fillT pz wd n n 0 = nmT b k n := by
        unfold fillT nmT
        refine List.map_congr_left fun i hi => ?_
        rw [if_pos (List.mem_range.1 hi), HPZ.out]
        unfold tM
        rw [← HWD.out, numF_numT _ hwb]
      rw [hz] at hrw
      have hl := nmT_len b k n
      have := hrw.ow (base := g10 + 1) (by have := HZ3.out; omega) (by rw [hl]; omega)
      rw [hl] at this
      rw [hv]; exact this
  obtain ⟨j0, hj0, hjw, hown0⟩ := hstart
  have HJW := Lib.hid hjw
  have HOW0 := Lib.hid hown0
  obtain ⟨va0, vc0, hv7, _, _⟩ := hown0.sl
  rw [nmT_len] at hv7
  subst hv7
  clear hjw hown0 HYES HNO
  obtain ⟨i0, hi0, hz0, hz1, hz2⟩ := info_parts Tryd.infoU64T
  have HI0 := Lib.hid hi0
  have HZZ0 := Lib.hid hz0
  have HZZ1 := Lib.hid hz1
  have HZZ2 := Lib.hid hz2
  clear hi0 hz0 hz1 hz2
  go_wp2_with fail
  go_loopw [11] (fun vv wr => ∃ (j : Nat) (va : Option Addr) (vc : Nat), vv = .slice va j vc ∧ j ≤ n ∧ (j = n ∨ wd = 0) ∧ Ow .u64 76 (g10 + 1) wr (.slice va j vc) (nmT b k j) ∧ RoS w wr g4 g6 g7 g10 cs (.slice none 0 0) (.slice none 0 0) ∧ g10 + 1 ≤ wr.heap.size) (fun vv _ => n - slLen vv)
  case atStart => exact ⟨j0, va0, vc0, rfl, hj0, HJW.out, HOW0.out, HRO5.out, HZ5.out⟩
  case round =>
    rename World => wr
    obtain ⟨j, va, vc, rfl, hj, hjw, how, hro, hzw⟩ := hrel
    have HJW1 := Lib.hid hjw
    have HOW := Lib.hid how
    have HR := Lib.hid hro
    obtain ⟨va9, vc9, hv9, hsl9, _⟩ := how.sl
    rw [nmT_len] at hv9 hsl9
    cases hv9
    have hcap := hsl9.le
    have hcpm := hsl9.max
    have HSL := Lib.hid hsl9
    clear hsl9
    have eC : wr.cell? ⟨g4, k, none⟩ = some (.int .i64 (n : Nat)) := by rw [hro.r4.cell (by omega), VC.out]
    clear hjw how hro HJW HOW0 HRO5 HZ5
    by_cases hjn : j < n
    · have hw0 : wd = 0 := by rcases HJW1.out with h | h <;> omega
      have hsn := nmT_snoc b k j
      rw [tM_zero b k j (by rw [← HWD.out]; exact hw0)] at hsn
      have HSN := Lib.hid hsn
      have HW0 := Lib.hid hw0
      clear hsn hw0
      have dj : decide ((j : Int) < (n : Int)) = true := decide_eq_true (by omega)
      go_wp2_with (at_builtin; refine wpList_appI rfl _ _ 68 rfl .u64 (g10 + 1) 76 i0 (.int .u64 0) 8 Tryd.underlying68 HI0.out HZZ0.out HZZ1.out HZZ2.out rfl _ (nmT b k j) rfl (HOW.out.alloc _) (some ⟨wr.heap.size, 0, none⟩) 1 1 [0] rfl (SlI.one _ _ _ _) (by simp) (by rw [nmT_len]; omega) (by rw [nmT_len]; omega) (by simp; omega) ?_; intro v' w6 hown' hgrow _; (have HW := Lib.hid hown'); (have HG := Lib.hid hgrow); clear hown' hgrow)
      have hw9 := HW.out
      rw [← (show nmT b k (j + 1) = nmT b k j ++ [0] from HSN.out)] at hw9
      obtain ⟨va', vc', hve, _, _⟩ := hw9.sl
      rw [nmT_len] at hve
      have hbw : Below (g10 + 1) wr w6 := ((Below.refl _ wr).alloc hzw _).grown HG.out (by simp; omega) (fun q e => (HOW.out.lt q e).1)
      subst hve
      have hzq := hbw.size
      go_roundw
      case rel => exact ⟨j + 1, va', vc', rfl, by omega, .inr HW0.out, hw9, HR.out.belowB hbw HGS.out (by omega), by omega⟩
      case measure => simp [slLen]; omega
    · obtain rfl : n = j := by omega
      have hop : opErr (nums (tP b k)) (tN b k : Nat) (tW b k : Nat) = 0 := by rw [← HPZ.out, ← HN.out, ← HWD.out, ← HOE.out]
      have hmw : mxW (nmT b k n) = bw (mxN b k n : Nat) := mxW_mx b k (by rw [← HWD.out]; exact hwb) n
      have hwi := rwidthL_calls wr va n vc (nmT b k n) HSL.out (fun x hx => by
        unfold nmT at hx
        obtain ⟨i, _, rfl⟩ := List.mem_map.1 hx
        have := tM_lt b k i (by rw [← HWD.out]; exact hwb)
        omega)
      obtain ⟨mm, hmm⟩ : ∃ mm, mm = bw (mxN b k n : Nat) := ⟨_, rfl⟩
      rw [hmw, ← hmm] at hwi
      have HWI := Lib.hid hwi
      have HMM := Lib.hid hmm
      have HOP := Lib.hid hop
      have dnn : decide ((n : Int) < (n : Int)) = false := decide_eq_false (by omega)
      clear hwi hmw hmm hop hjn
      go_upto_if 65 with (go_at_call 43; (with_reducible refine HWI.out.mono ?_); rintro e wz ⟨rfl, rfl⟩)
      clear eC HWI
      rename World => wr
      by_cases hmw : ¬ mm = (wd : Nat)
      · have dm : (mm != (wd : Int)) = true := by simpa using hmw
        have HEV := Lib.hid (show lkE b k 0 0 = (14, A) by
          unfold lkE
          rw [if_neg (by rw [HOP.out]; simp), if_pos (by rw [← HN.out, ← HMM.out, ← HWD.out]; exact hmw), HA.out])
        have HLU := Lib.hid (show ¬ lkU b k from fun h => hmw (by have := h.2.2.2; rw [← HN.out, ← HMM.out, ← HWD.out] at this; exact this))
        clear hmw
        obtain ⟨n1, n2, n3, n4⟩ := (HR.out).sto ((A : Nat)) (14)
        obtain ⟨a0, a1, b0, b1, p0, p1, c0, c1, q0, q1⟩ := (HR.out).fs
        have HN1 := Lib.hid n1
        have HN2 := Lib.hid n2
        have HN3 := Lib.hid n3
        have HN4 := Lib.hid n4
        clear n1 n2 n3 n4
        go_wp2_with fail
        refine bodyPost_ret (results_cc rfl _ _ g6 g7 _ _ _ _ _ _ _ _ rfl HN1.out rfl HN2.out Tryd.underlying71 rfl HIL.out Tryd.underlying33 rfl HI2.out) rfl ⟨.slice none 0 0, .slice none 0 0, 0, 0, (fun h => absurd h HLU.out), ?_, (fun h => by rw [HEV.out] at h; cases h), ⟨⟨_, _, _, rfl⟩, _, _, _, rfl⟩, HN3.out⟩
        rw [HEV.out]; rfl
      have hmw2 := Classical.not_not.1 hmw
      clear hmw
      have HMW := Lib.hid (show bw (mxN b k (tN b k) : Nat) = (tW b k : Nat) by rw [← HN.out, ← HMM.out, ← HWD.out]; exact hmw2)
      subst hmw2
      have dm : ((wd : Int) != (wd : Int)) = false := by simp
      have a0 : wr.cell? ⟨g10, 0, none⟩ = some (.slice none 0 0) := cellT0 HR.out.r10
      have p0 : wr.frozen? ⟨g10, 0, none⟩ = false := frozen_of_row _ _ 0 _ _ HR.out.r10
      have hr8 := HR.out.set0 (.slice va n vc)
      have k8 : Kept (fun g => g = g10) wr (wr.setCell ⟨g10, 0, none⟩ (.slice va n vc)) := (Kept.refl (fun g => g = g10) wr).setCell (p := ⟨g10, 0, none⟩) (.inl rfl) _
      have ho8 := HOW.out.kept2 k8 (fun q e h => by have := (HOW.out.lt q e).1; omega)
      go_upto_region 12 with fail
      clear a0 p0 dm
      have hz8 := k8.size
      generalize wr.setCell ⟨g10, 0, none⟩ (.slice va n vc) = w8 at hr8 k8 ho8 hz8 ⊢
      have HR8 := Lib.hid hr8
      have HO8 := Lib.hid ho8
      have hzw8 : g10 + 1 ≤ w8.heap.size := by omega
      clear hr8 k8 ho8 HR HOW HSL hz8 hzw HMM
      by_cases h0 : 0 < k
      · have dk : decide ((0 : Int) < (k : Int)) = true := decide_eq_true (by omega)
        have dk' : decide (0 < k) = true := decide_eq_true h0
        have hvc := rvector_calls w8 aa c b (HS.out.keep HR8.out.bl) cs HCS.out k h0 hk HC.out HL.out hlen
        have HVC := Lib.hid hvc
        clear hvc
        have HI13 := Lib.hid (show (Tryd.prog.info? 31).map (·.size) = some (rowC 13 cs).size by rw [rowC_size]; exact Tryd.sizeHdT)
        go_upto_region 14 with (first
          | (refine wpList_load_row rfl 31 _ rfl g4 rfl _ (rowC 13 cs) _ _ HR8.out.r4 Tryd.underlying31 rfl HI13.out ?_)
          | (go_at_call 44; (with_reducible refine HVC.out.mono ?_); rintro e w9 ⟨vb, x, y, hxy, he, how, hb⟩; obtain ⟨er, her⟩ : ∃ er, er = (lkB b k x y).1 := ⟨_, rfl⟩; obtain ⟨ey, hey⟩ : ∃ ey, ey = (lkB b k x y).2 := ⟨_, rfl⟩; rw [show flT (lkB b k x y) = .agg #[.int .i64 (ey : Nat), .int .i64 er] by rw [her, hey]; rfl] at he; subst he; (have HXY := Lib.hid hxy); (have HER := Lib.hid her); (have HEY := Lib.hid hey); rw [← her] at how; (have HOB := Lib.hid how); (have HB9 := Lib.hid hb); clear hxy her hey how hb))
        have hb10 := (Below.refl w9.heap.size w9).alloc (Nat.le_refl _) (.cells #[.int .i64 (ey : Nat), .int .i64 er] 33)
        have hr14 := heap_alloc_new w9 (.cells #[.int .i64 (ey : Nat), .int .i64 er] 33)
        have hg14 : g10 + 1 ≤ w9.heap.size := by have := HB9.out.size; omega
        generalize w9.alloc (.cells #[.int .i64 (ey : Nat), .int .i64 er] 33) = wa at hb10 hr14 ⊢
        generalize hg14e : w9.heap.size = g14 at hr14 hg14 ⊢
        rw [hg14e] at hb10
        have hbA := HB9.out.trans ((show Below w9.heap.size w9 wa by rw [hg14e]; exact hb10).mono HB9.out.size)
        have HRA := Lib.hid (HR8.out.below hbA)
        have HOA := Lib.hid (HO8.out.keep8 hbA)
        have HOBA := Lib.hid (fun h => OwB.keep (HOB.out h) (show Below w9.heap.size w9 wa by rw [hg14e]; exact hb10))
        have HR14 := Lib.hid hr14
        have HZA := Lib.hid (show w8.heap.size ≤ wa.heap.size from hbA.size)
        have m1 : wa.cell? ⟨g14, 1, none⟩ = some (.int .i64 er) := cellT1 hr14
        have HEV0 := Lib.hid (show lkE b k x y = if (lkB b k x y).1 ≠ 0 then lkB b k x y else lnS b k n by
          unfold lkE
          rw [if_neg (by rw [HOP.out]; simp), if_neg (by rw [HMW.out]; simp), ← HN.out]
          by_cases hh : (lkB b k x y).1 ≠ 0
          · rw [if_pos ⟨h0, hh⟩, if_pos hh]
          · rw [if_neg (fun hc => hh hc.2), if_neg hh])
        have HQ := Lib.hid (show lkU b k → OpenQ (tB b k) x y from fun h => HXY.out h.2.1)
        clear hb10 hr14 hbA hg14e HR8 HO8 HOB HVC HB9 HXY
        by_cases he : er ≠ 0
        · have e1 : (er != 0) = true := by simp [he]
          have HEV := Lib.hid (show lkE b k x y = (er, ey) by rw [HEV0.out, if_pos (by rw [← HER.out]; exact he), HER.out, HEY.out])
          have HE := Lib.hid he
          clear he
          go_upto_region 15 with fail
          have HRD := Lib.hid (HRA.out.below (Below.drew (Below.refl wa.heap.size wa)))
          have h14D : wa.drew.heap[g14]? = some (.cells #[.int .i64 (ey : Nat), .int .i64 er] 33 (0, 0)) := HR14.out
          have n614 : g14 ≠ g6 := by have := HGS.out; omega
          have n714 : g14 ≠ g7 := by have := HGS.out; omega
          refine wh_startN (S := fun W => W.heap[g14]? = some (.cells #[.int .i64 (ey : Nat), .int .i64 er] 33 (0, 0)) ∧ W.heap[g10]? = some (.cells #[.slice va n vc, .slice none 0 0] 71 (0, 0))) 4 rfl (by kernel_rfl) ?_
          generalize wa.drew = w6 at HRD h14D ⊢
          refine wh_takeD 0 83 (.agg #[.slice va n vc, .slice none 0 0]) rfl rfl rfl (by kernel_rfl) (by kernel_rfl) (by kernel_rfl) (fun _ _ _ _ h => h) ⟨h14D, HRD.out.r10⟩ (fun w' h => by exact run_load_row 71 _ rfl g10 rfl 71 _ _ _ w' h.2 Tryd.underlying71 rfl HIL.out) ?_
          simp only [List.setIfInBounds_toArray, List.set_cons_succ, List.set_cons_zero]
          refine wh_takeD 1 84 (.agg #[.int .i64 (ey : Nat), .int .i64 er]) rfl rfl rfl (by kernel_rfl) (by kernel_rfl) (by kernel_rfl) (fun _ _ _ _ h => h) ⟨h14D, HRD.out.r10⟩ (fun w' h => by exact run_load_row 33 _ rfl g14 rfl 33 _ _ _ w' h.1 Tryd.underlying33 rfl HI2.out) ?_
          simp only [List.setIfInBounds_toArray, List.set_cons_succ, List.set_cons_zero]
          refine wh_skipD 2 (w' := w6.setRow g6 #[.slice va n vc, .slice none 0 0]) rfl rfl rfl (by kernel_rfl) (by exact run_store_rowO 71 _ _ rfl g6 _ (by simp [go_sem]) (by simp [go_sem]) 71 _ HRD.out.r6 HIL.out rfl (by simp [Value.oneCell'])) ⟨(setRow_other _ _ _ _ n614).trans h14D, (setRow_other _ _ _ _ (fun e => HRD.out.n610 e.symm)).trans HRD.out.r10⟩ ?_
          refine wh_skipD 3 (w' := (w6.setRow g6 #[.slice va n vc, .slice none 0 0]).setRow g7 #[.int .i64 (ey : Nat), .int .i64 er]) rfl rfl rfl (by kernel_rfl) (by exact run_store_rowO 33 _ _ rfl g7 _ (by simp [go_sem]) (by simp [go_sem]) 33 _ ((setRow_other _ _ _ _ (fun e => HRD.out.n67 e.symm)).trans HRD.out.r7) HI2.out rfl (by simp [Value.oneCell'])) ⟨(setRow_other _ _ _ _ n714).trans ((setRow_other _ _ _ _ n614).trans h14D), (setRow_other _ _ _ _ (fun e => HRD.out.n710 e.symm)).trans ((setRow_other _ _ _ _ (fun e => HRD.out.n610 e.symm)).trans HRD.out.r10)⟩ ?_
          refine wpAnyH_done (by kernel_rfl) ?_ 0
          have n1 : ((w6.setRow g6 #[.slice va n vc, .slice none 0 0]).setRow g7 #[.int .i64 (ey : Nat), .int .i64 er]).heap[g6]? = some (.cells #[.slice va n vc, .slice none 0 0] 71 (0, 0)) := (setRow_other _ _ _ _ HRD.out.n67).trans (setRow_heap _ g6 _ _ _ _ HRD.out.r6)
          have n2 := setRow_heap (w6.setRow g6 #[.slice va n vc, .slice none 0 0]) g7 _ #[.int .i64 (ey : Nat), .int .i64 er] _ _ ((setRow_other _ _ _ _ (fun e => HRD.out.n67 e.symm)).trans HRD.out.r7)
          have n3 : Below w.heap.size w ((w6.setRow g6 #[.slice va n vc, .slice none 0 0]).setRow g7 #[.int .i64 (ey : Nat), .int .i64 er]) := below_setRow (below_setRow HRD.out.bl HRD.out.b6 _) HRD.out.b7 _
          generalize (w6.setRow g6 #[.slice va n vc, .slice none 0 0]).setRow g7 #[.int .i64 (ey : Nat), .int .i64 er] = w7 at n1 n2 n3 ⊢
          have HN1 := Lib.hid n1
          have HN2 := Lib.hid n2
          have HN3 := Lib.hid n3
          clear n1 n2 n3 m1 h14D n614 n714
          simp only [go_sem, List.setIfInBounds_toArray, List.set_cons_succ, List.set_cons_zero]
          go_wp2
          refine bodyPost_ret (results_cc rfl _ _ g6 g7 _ _ _ _ _ _ _ _ rfl HN1.out rfl HN2.out Tryd.underlying71 rfl HIL.out Tryd.underlying33 rfl HI2.out) rfl ⟨.slice va n vc, .slice none 0 0, x, y, HQ.out, ?_, (fun h => by rw [HEV.out] at h; exact absurd h HE.out), ⟨⟨_, _, _, rfl⟩, _, _, _, rfl⟩, HN3.out⟩
          rw [HEV.out]; rfl
        obtain rfl : er = 0 := Classical.not_not.1 he
        obtain ⟨lb, lc, hve, hsb, _⟩ := OwB.sl (HOBA.out rfl)
        rw [List.length_map, List.length_range, ← HN.out] at hve hsb
        subst hve
        have HSB := Lib.hid hsb
        have hleb := hsb.le
        have hmxb := hsb.max
        have HEV1 := Lib.hid (show lkE b k x y = lnS b k n by rw [HEV0.out, if_neg (by rw [← HER.out]; simp)])
        have a1 : wa.cell? ⟨g10, 1, none⟩ = some (.slice none 0 0) := cellT1 HRA.out.r10
        have p1 : wa.frozen? ⟨g10, 1, none⟩ = false := frozen_of_row _ _ 1 _ _ HRA.out.r10
        have hrB := HRA.out.set1 (.slice lb n lc)
        have kB : Kept (fun g => g = g10) wa (wa.setCell ⟨g10, 1, none⟩ (.slice lb n lc)) := (Kept.refl (fun g => g = g10) wa).setCell (p := ⟨g10, 1, none⟩) (.inl rfl) _
        have hoB := HOA.out.kept2 kB (fun q e h => by have := (HOA.out.lt q e).1; omega)
        have hbB : OwB 4 w8.heap.size (wa.setCell ⟨g10, 1, none⟩ (.slice lb n lc)) (.slice lb n lc) ((List.range (tN b k)).map (tBit b k)) := by
          have h1 := HOBA.out rfl
          refine ⟨h1.1, ?_⟩
          rcases h1.2 with hn | ⟨g', cap, cur, e9, hbg, hgg, rest⟩
          · exact .inl hn
          · exact .inr ⟨g', cap, cur, e9, hbg, (heap_setCell_other _ _ _ _ (by simp; omega)).trans hgg, rest⟩
        have e0 : ((0 : Int) != 0) = false := rfl
        clear hsb he
        go_upto_region 17 with fail
        clear m1 a1 p1 dk dk' e0
        have hzB := kB.size
        generalize wa.setCell ⟨g10, 1, none⟩ (.slice lb n lc) = wB at hrB kB hoB hbB hzB ⊢
        have HRB := Lib.hid hrB
        have HOB := Lib.hid hoB
        have HBB := Lib.hid hbB
        have HZB := Lib.hid (show g10 + 1 ≤ w8.heap.size ∧ w8.heap.size ≤ wB.heap.size by have := HZA.out; omega)
        clear hrB kB hoB hbB hzB HRA HOA HOBA HR14 HSB hg14
        go_wp2_with fail
        go_loopw [15] (fun iv wr => ∃ i : Nat, iv = .int .i64 (i : Nat) ∧ i ≤ n ∧ (lnS b k i).1 = 0 ∧ Below wB.heap.size wB wr) (fun iv _ => n - (intOf iv).toNat)
        case atStart => exact ⟨0, rfl, Nat.zero_le _, rfl, Below.refl _ _⟩
        case round =>
          rename World => wl
          obtain ⟨i, rfl, hi, hln, hbl⟩ := hrel
          have HLN := Lib.hid hln
          have HRL := Lib.hid (HRB.out.below hbl)
          have HOL := Lib.hid (HOB.out.keep8 hbl)
          have HBL := Lib.hid (OwB.keep HBB.out hbl)
          have HBLW := Lib.hid hbl
          obtain ⟨va9, vc9, hv9, hsl9, _⟩ := HOL.out.sl
          rw [nmT_len] at hv9 hsl9
          cases hv9
          obtain ⟨lb9, lc9, hv9, hsb9, _⟩ := OwB.sl HBL.out
          rw [List.length_map, List.length_range, ← HN.out] at hv9 hsb9
          cases hv9
          have HZL := Lib.hid (show wB.heap.size ≤ wl.heap.size from hbl.size)
          clear hln hbl
          by_cases hin : i < n
          · obtain ⟨gb, go, hab, hcm⟩ := hsl9.cell i hin
            subst hab
            obtain ⟨m, hm⟩ : ∃ m, m = tM b k i := ⟨_, rfl⟩
            rw [nmT_at b k hin, ← hm] at hcm
            have hmb : m < 8388608 := by rw [hm]; exact tM_lt b k i (by rw [← HWD.out]; exact hwb)
            have hst : (lnE b k i).1 ≠ 0 → lkE b k x y = lnE b k i := fun h => by
              have e : lnS b k (i + 1) = lnE b k i := by simp only [lnS]; rw [if_neg (by rw [HLN.out]; simp)]
              rw [HEV1.out, ln_stop b k (i := i + 1) (j := n) (by omega) (by rw [e]; exact h), e]
            have hgo : (lnE b k i).1 = 0 → (lnS b k (i + 1)).1 = 0 := fun h => by simp only [lnS]; rw [if_neg (by rw [HLN.out]; simp)]; exact h
            have HST := Lib.hid hst
            have HGO := Lib.hid hgo
            have HM := Lib.hid hm
            have hprev : 0 < i → ∃ j m', i = j + 1 ∧ m' = tM b k j ∧ wl.cell? ⟨gb, go + j, none⟩ = some (.int .u64 (m' : Nat)) ∧ m' < 8388608 := fun h => by
              obtain ⟨g', o', e', hc'⟩ := hsl9.cell (i - 1) (by omega)
              cases e'
              rw [nmT_at b k (show i - 1 < n by omega)] at hc'
              exact ⟨i - 1, _, by omega, rfl, hc', tM_lt b k _ (by rw [← HWD.out]; exact hwb)⟩
            have HPV := Lib.hid hprev
            have hcap := hsl9.le
            have hcpm := hsl9.max
            have hlast : 0 < i → ∃ j t lg lo, i = j + 1 ∧ t = tBit b k j ∧ lb = some ⟨lg, lo, none⟩ ∧ wl.cell? ⟨lg, lo + j, none⟩ = some (.bool t) := fun h => by
              obtain ⟨g', o', e', hc'⟩ := hsb9.cell (i - 1) (by omega)
              refine ⟨i - 1, _, g', o', by omega, rfl, e', ?_⟩
              rw [hc']
              have hlt : i - 1 < n := by omega
              simp [List.getD_eq_getElem?_getD, List.getElem?_range hlt]
            have HLS := Lib.hid hlast
            have dk : decide ((0 : Int) < (k : Int)) = true := decide_eq_true (by omega)
            have dk' : decide (0 < k) = true := decide_eq_true h0
            have dz : ((k : Int) == 0) = false := by simp; omega
            have dz' : (k == 0) = false := by simp; omega
            clear hlast hsb9
            clear hst hgo hm hprev hsl9
            by_cases hm0 : m = 0
            · have d0 : ((m : Int) == 0) = true := by simp [hm0]
              have d0' : (m == 0) = true := by simp [hm0]
              have HEV := Lib.hid (show lkE b k x y = (180, A1) by
                have e : lnE b k i = (180, A1) := by
                  unfold lnE
                  rw [if_pos, HA1.out, HA.out]
                  rw [← HM.out]; unfold okN; rw [decide_eq_false (by omega)]; rfl
                rw [HST.out (by rw [e]; simp), e])
              clear hm0
              have hA1i : (A : Int) + 1 = (A1 : Int) := by have := HA1.out; omega
              have hA1w : IntKind.i64.wrap (A1 : Int) = (A1 : Int) := by have := HA1.out; rw [IntKind.wrap_i64]; omega
              obtain ⟨n1, n2, n3, n4⟩ := (HRL.out).sto ((A1 : Nat)) (180)
              obtain ⟨a0, a1, b0, b1, p0, p1, c0, c1, q0, q1⟩ := (HRL.out).fs
              have HN1 := Lib.hid n1
              have HN2 := Lib.hid n2
              have HN3 := Lib.hid n3
              have HN4 := Lib.hid n4
              clear n1 n2 n3 n4
              go_wp2_with fail
              refine bodyPost_ret (results_cc rfl _ _ g6 g7 _ _ _ _ _ _ _ _ rfl HN1.out rfl HN2.out Tryd.underlying71 rfl HIL.out Tryd.underlying33 rfl HI2.out) rfl ⟨.slice (some ⟨gb, go, none⟩) n vc, .slice lb n lc, x, y, HQ.out, ?_, (fun h => by rw [HEV.out] at h; cases h), ⟨⟨_, _, _, rfl⟩, _, _, _, rfl⟩, HN3.out⟩
              rw [HEV.out]; rfl
            have d0 : ((m : Int) == 0) = false := by simp [hm0]
            have d0' : (m == 0) = false := by simp [hm0]
            by_cases hbig : 4194304 < m
            · have d1 : decide ((4194304 : Int) < (m : Int)) = true := decide_eq_true (by omega)
              have d1' : decide (4194304 < m) = true := decide_eq_true hbig
              have HEV := Lib.hid (show lkE b k x y = (180, A1) by
                have e : lnE b k i = (180, A1) := by
                  unfold lnE
                  rw [if_pos, HA1.out, HA.out]
                  rw [← HM.out]; unfold okN; rw [decide_eq_false (show ¬ ((m : Int) ≤ 4194304) by omega), Bool.and_false]
                rw [HST.out (by rw [e]; simp), e])
              clear hbig
              have hA1i : (A : Int) + 1 = (A1 : Int) := by have := HA1.out; omega
              have hA1w : IntKind.i64.wrap (A1 : Int) = (A1 : Int) := by have := HA1.out; rw [IntKind.wrap_i64]; omega
              obtain ⟨n1, n2, n3, n4⟩ := (HRL.out).sto ((A1 : Nat)) (180)
              obtain ⟨a0, a1, b0, b1, p0, p1, c0, c1, q0, q1⟩ := (HRL.out).fs
              have HN1 := Lib.hid n1
              have HN2 := Lib.hid n2
              have HN3 := Lib.hid n3
              have HN4 := Lib.hid n4
              clear n1 n2 n3 n4
              go_wp2_with fail
              refine bodyPost_ret (results_cc rfl _ _ g6 g7 _ _ _ _ _ _ _ _ rfl HN1.out rfl HN2.out Tryd.underlying71 rfl HIL.out Tryd.underlying33 rfl HI2.out) rfl ⟨.slice (some ⟨gb, go, none⟩) n vc, .slice lb n lc, x, y, HQ.out, ?_, (fun h => by rw [HEV.out] at h; cases h), ⟨⟨_, _, _, rfl⟩, _, _, _, rfl⟩, HN3.out⟩
              rw [HEV.out]; rfl
            have d1 : decide ((4194304 : Int) < (m : Int)) = false := decide_eq_false (by omega)
            have d1' : decide (4194304 < m) = false := decide_eq_false hbig
            have hlE : lnE b k i = if 0 < i ∧ (k = 0 ∨ tBit b k (i - 1) = false) ∧ m ≤ tM b k (i - 1) then (160, A1) else (0, 0) := by
              unfold lnE
              rw [if_neg, HA1.out, HA.out, ← HM.out]
              rw [← HM.out]; unfold okN
              rw [decide_eq_true (show ((min k 1 : Nat) : Int) ≤ (m : Int) by omega), decide_eq_true (show (m : Int) ≤ 4194304 by omega)]; simp
            have HLE := Lib.hid hlE
            clear hlE
            by_cases hi0 : 0 < i
            · obtain ⟨j, m', rfl, hm', hcm', hmb'⟩ := HPV.out hi0
              have di : decide ((0 : Int) < ((j + 1 : Nat) : Int)) = true := decide_eq_true (by omega)
              have di' : decide (0 < j + 1) = true := decide_eq_true (by omega)
              have HM' := Lib.hid hm'
              have hjn : j < n := by omega
              clear hm'
              have HLE2 := Lib.hid (show lnE b k (j + 1) = if (k = 0 ∨ tBit b k j = false) ∧ m ≤ m' then (160, A1) else (0, 0) by
                rw [HLE.out, Nat.add_sub_cancel, ← HM'.out]
                by_cases hh : (k = 0 ∨ tBit b k j = false) ∧ m ≤ m'
                · rw [if_pos ⟨by omega, hh⟩, if_pos hh]
                · rw [if_neg (fun h => hh h.2), if_neg hh])
              clear HLE
              have HLE := HLE2
              obtain ⟨j2, t, lg, lo, hj2, ht, hlb, hcl⟩ := HLS.out hi0
              obtain rfl : j = j2 := by omega
              subst hlb
              have eL : wl.cell? ⟨g10, 1, none⟩ = some (.slice (some ⟨lg, lo, none⟩) n lc) := cellT1 HRL.out.r10
              have HT := Lib.hid ht
              clear ht hj2
              cases t with
              | true =>
                have HG := Lib.hid (HGO.out (by rw [HLE.out, if_neg (fun h => by rcases h.1 with h | h; omega; rw [← HT.out] at h; cases h)]))
                go_upto_region 22 with fail
                go_quiet (fail)
                have HRQ := Lib.hid (HRL.out.below (below_drewN (Below.refl _ _) nq))
                have HBQ := Lib.hid (below_drewN HBLW.out nq)
                clear hcm hcm' hcl eL HRL
                generalize wl.drewN nq = wq at HRQ HBQ ⊢
                go_wp2_with fail
                exact ⟨⟨j + 1 + 1, by go_num, by omega, HG.out, HBQ.out⟩, by simp [intOf]; omega⟩
              | false =>
                by_cases hle9 : m ≤ m'
                · have d2 : decide ((m : Int) ≤ (m' : Int)) = true := decide_eq_true (by omega)
                  have d2' : decide (m ≤ m') = true := decide_eq_true hle9
                  have HEV := Lib.hid (show lkE b k x y = (160, A1) by
                    have e : lnE b k (j + 1) = (160, A1) := by rw [HLE.out, if_pos ⟨.inr HT.out.symm, hle9⟩]
                    rw [HST.out (by rw [e]; simp), e])
                  go_upto_region 22 with fail
                  go_quiet (fail)
                  have HRQ := Lib.hid (HRL.out.below (below_drewN (Below.refl _ _) nq))
                  have HBQ := Lib.hid (below_drewN HBLW.out nq)
                  clear hcm hcm' hcl eL HRL
                  generalize wl.drewN nq = wq at HRQ HBQ ⊢
                  have hA1i : (A : Int) + 1 = (A1 : Int) := by have := HA1.out; omega
                  have hA1w : IntKind.i64.wrap (A1 : Int) = (A1 : Int) := by have := HA1.out; rw [IntKind.wrap_i64]; omega
                  obtain ⟨n1, n2, n3, n4⟩ := (HRQ.out).sto ((A1 : Nat)) (160)
                  obtain ⟨a0, a1, b0, b1, p0, p1, c0, c1, q0, q1⟩ := (HRQ.out).fs
                  have HN1 := Lib.hid n1
                  have HN2 := Lib.hid n2
                  have HN3 := Lib.hid n3
                  have HN4 := Lib.hid n4
                  clear n1 n2 n3 n4
                  go_wp2_with fail
                  refine bodyPost_ret (results_cc rfl _ _ g6 g7 _ _ _ _ _ _ _ _ rfl HN1.out rfl HN2.out Tryd.underlying71 rfl HIL.out Tryd.underlying33 rfl HI2.out) rfl ⟨.slice (some ⟨gb, go, none⟩) n vc, .slice (some ⟨lg, lo, none⟩) n lc, x, y, HQ.out, ?_, (fun h => by rw [HEV.out] at h; cases h), ⟨⟨_, _, _, rfl⟩, _, _, _, rfl⟩, HN3.out⟩
                  rw [HEV.out]; rfl
                · have d2 : decide ((m : Int) ≤ (m' : Int)) = false := decide_eq_false (by omega)
                  have d2' : decide (m ≤ m') = false := decide_eq_false hle9
                  have HG := Lib.hid (HGO.out (by rw [HLE.out, if_neg (fun h => hle9 h.2)]))
                  go_upto_region 22 with fail
                  go_quiet (fail)
                  have HRQ := Lib.hid (HRL.out.below (below_drewN (Below.refl _ _) nq))
                  have HBQ := Lib.hid (below_drewN HBLW.out nq)
                  clear hcm hcm' hcl eL HRL
                  generalize wl.drewN nq = wq at HRQ HBQ ⊢
                  go_wp2_with fail
                  exact ⟨⟨j + 1 + 1, by go_num, by omega, HG.out, HBQ.out⟩, by simp [intOf]; omega⟩
            · obtain rfl : i = 0 := by omega
              have di : decide ((0 : Int) < ((0 : Nat) : Int)) = false := rfl
              rw [Nat.add_zero] at hcm
              have HG := Lib.hid (HGO.out (by rw [HLE.out, if_neg (fun h => hi0 h.1)]))
              go_upto_region 22 with fail
              go_quiet (fail)
              have HRQ := Lib.hid (HRL.out.below (below_drewN (Below.refl _ _) nq))
              have HBQ := Lib.hid (below_drewN HBLW.out nq)
              clear hcm HRL
              generalize wl.drewN nq = wq at HRQ HBQ ⊢
              go_wp2_with fail
              exact ⟨⟨0 + 1, by go_num, by omega, HG.out, HBQ.out⟩, by simp [intOf] <;> omega⟩
          · have hie : i = n := by omega
            have HEV := Lib.hid (show lkE b k x y = (0, 0) by rw [HEV1.out, ← hie]; exact ln_zero HLN.out)
            have dn : decide ((i : Int) < (n : Int)) = false := decide_eq_false (by omega)
            have dn' : decide (i < n) = false := decide_eq_false hin
            have hcap := hsl9.le
            have hcpm := hsl9.max
            clear hie hsl9 hsb9
            obtain ⟨n1, n2, n3, n4⟩ := (HRL.out).sto (0) (0)
            obtain ⟨a0, a1, b0, b1, p0, p1, c0, c1, q0, q1⟩ := (HRL.out).fs
            have HN1 := Lib.hid n1
            have HN2 := Lib.hid n2
            have HN3 := Lib.hid n3
            have HN4 := Lib.hid n4
            clear n1 n2 n3 n4
            go_wp2_with fail
            refine bodyPost_ret (results_cc rfl _ _ g6 g7 _ _ _ _ _ _ _ _ rfl HN1.out rfl HN2.out Tryd.underlying71 rfl HIL.out Tryd.underlying33 rfl HI2.out) rfl ⟨.slice va n vc, .slice lb n lc, x, y, HQ.out, ?_, (fun _ => ⟨by rw [← HN.out]; exact ownsRow_mono (HOL.out.kept2 HN4.out (fun q e h => by have := (HOL.out.lt q e).1; have := HGS.out; omega)) (by have := HGS.out; omega), fun _ => ownsRow_mono (owB_kept HBL.out HN4.out (fun q e h => by have := (HBL.out.lt q e).1; have := HGS.out; have := HZB.out; omega)) (by have := HGS.out; have := HZB.out; omega)⟩), ⟨⟨_, _, _, rfl⟩, _, _, _, rfl⟩, HN3.out⟩
            rw [HEV.out]; rfl
      · have dk : decide ((0 : Int) < (k : Int)) = false := decide_eq_false (by omega)
        have dk' : decide (0 < k) = false := decide_eq_false h0
        have hk0 : k = 0 := by omega
        have HEV1 := Lib.hid (show lkE b k 0 0 = lnS b k n by
          unfold lkE
          rw [if_neg (by rw [HOP.out]; simp), if_neg (by rw [HMW.out]; simp), if_neg (fun h => h0 h.1), ← HN.out])
        have HQ := Lib.hid (show lkU b k → OpenQ (tB b k) 0 0 from fun h => absurd h.1 h0)
        go_upto_region 17 with fail
        clear dk dk'
        have HRB := HR8
        have HOB := HO8
        have HZB := Lib.hid (show g10 + 1 ≤ w8.heap.size ∧ w8.heap.size ≤ w8.heap.size by omega)
        have HK0 := Lib.hid hk0
        clear hk0 HR8 HO8
        go_wp2_with fail
        go_loopw [15] (fun iv wr => ∃ i : Nat, iv = .int .i64 (i : Nat) ∧ i ≤ n ∧ (lnS b k i).1 = 0 ∧ Below w8.heap.size w8 wr) (fun iv _ => n - (intOf iv).toNat)
        case atStart => exact ⟨0, rfl, Nat.zero_le _, rfl, Below.refl _ _⟩
        case round =>
          rename World => wl
          obtain ⟨i, rfl, hi, hln, hbl⟩ := hrel
          have HLN := Lib.hid hln
          have HRL := Lib.hid (HRB.out.below hbl)
          have HOL := Lib.hid (HOB.out.keep8 hbl)
          have HBLW := Lib.hid hbl
          obtain ⟨va9, vc9, hv9, hsl9, _⟩ := HOL.out.sl
          rw [nmT_len] at hv9 hsl9
          cases hv9
          have HZL := Lib.hid (show w8.heap.size ≤ wl.heap.size from hbl.size)
          clear hln hbl
          by_cases hin : i < n
          · obtain ⟨gb, go, hab, hcm⟩ := hsl9.cell i hin
            subst hab
            obtain ⟨m, hm⟩ : ∃ m, m = tM b k i := ⟨_, rfl⟩
            rw [nmT_at b k hin, ← hm] at hcm
            have hmb : m < 8388608 := by rw [hm]; exact tM_lt b k i (by rw [← HWD.out]; exact hwb)
            have hst : (lnE b k i).1 ≠ 0 → lkE b k 0 0 = lnE b k i := fun h => by
              have e : lnS b k (i + 1) = lnE b k i := by simp only [lnS]; rw [if_neg (by rw [HLN.out]; simp)]
              rw [HEV1.out, ln_stop b k (i := i + 1) (j := n) (by omega) (by rw [e]; exact h), e]
            have hgo : (lnE b k i).1 = 0 → (lnS b k (i + 1)).1 = 0 := fun h => by simp only [lnS]; rw [if_neg (by rw [HLN.out]; simp)]; exact h
            have HST := Lib.hid hst
            have HGO := Lib.hid hgo
            have HM := Lib.hid hm
            have hprev : 0 < i → ∃ j m', i = j + 1 ∧ m' = tM b k j ∧ wl.cell? ⟨gb, go + j, none⟩ = some (.int .u64 (m' : Nat)) ∧ m' < 8388608 := fun h => by
              obtain ⟨g', o', e', hc'⟩ := hsl9.cell (i - 1) (by omega)
              cases e'
              rw [nmT_at b k (show i - 1 < n by omega)] at hc'
              exact ⟨i - 1, _, by omega, rfl, hc', tM_lt b k _ (by rw [← HWD.out]; exact hwb)⟩
            have HPV := Lib.hid hprev
            have hcap := hsl9.le
            have hcpm := hsl9.max
            have dk : decide ((0 : Int) < (k : Int)) = false := decide_eq_false (by omega)
            have dk' : decide (0 < k) = false := decide_eq_false h0
            have dz : ((k : Int) == 0) = true := by simp; exact HK0.out
            have dz' : (k == 0) = true := by simp; exact HK0.out
            clear hst hgo hm hprev hsl9
            by_cases hbig : 4194304 < m
            · have d1 : decide ((4194304 : Int) < (m : Int)) = true := decide_eq_true (by omega)
              have d1' : decide (4194304 < m) = true := decide_eq_true hbig
              have HEV := Lib.hid (show lkE b k 0 0 = (180, A1) by
                have e : lnE b k i = (180, A1) := by
                  unfold lnE
                  rw [if_pos, HA1.out, HA.out]
                  rw [← HM.out]; unfold okN; rw [decide_eq_false (show ¬ ((m : Int) ≤ 4194304) by omega), Bool.and_false]
                rw [HST.out (by rw [e]; simp), e])
              clear hbig
              have hA1i : (A : Int) + 1 = (A1 : Int) := by have := HA1.out; omega
              have hA1w : IntKind.i64.wrap (A1 : Int) = (A1 : Int) := by have := HA1.out; rw [IntKind.wrap_i64]; omega
              obtain ⟨n1, n2, n3, n4⟩ := (HRL.out).sto ((A1 : Nat)) (180)
              obtain ⟨a0, a1, b0, b1, p0, p1, c0, c1, q0, q1⟩ := (HRL.out).fs
              have HN1 := Lib.hid n1
              have HN2 := Lib.hid n2
              have HN3 := Lib.hid n3
              have HN4 := Lib.hid n4
              clear n1 n2 n3 n4
              go_wp2_with fail
              refine bodyPost_ret (results_cc rfl _ _ g6 g7 _ _ _ _ _ _ _ _ rfl HN1.out rfl HN2.out Tryd.underlying71 rfl HIL.out Tryd.underlying33 rfl HI2.out) rfl ⟨.slice (some ⟨gb, go, none⟩) n vc, .slice none 0 0, 0, 0, HQ.out, ?_, (fun h => by rw [HEV.out] at h; cases h), ⟨⟨_, _, _, rfl⟩, _, _, _, rfl⟩, HN3.out⟩
              rw [HEV.out]; rfl
            have d1 : decide ((4194304 : Int) < (m : Int)) = false := decide_eq_false (by omega)
            have d1' : decide (4194304 < m) = false := decide_eq_false hbig
            have hlE : lnE b k i = if 0 < i ∧ (k = 0 ∨ tBit b k (i - 1) = false) ∧ m ≤ tM b k (i - 1) then (160, A1) else (0, 0) := by
              unfold lnE
              rw [if_neg, HA1.out, HA.out, ← HM.out]
              rw [← HM.out]; unfold okN
              rw [decide_eq_true (show ((min k 1 : Nat) : Int) ≤ (m : Int) by omega), decide_eq_true (show (m : Int) ≤ 4194304 by omega)]; simp
            have HLE := Lib.hid hlE
            clear hlE
            by_cases hi0 : 0 < i
            · obtain ⟨j, m', rfl, hm', hcm', hmb'⟩ := HPV.out hi0
              have di : decide ((0 : Int) < ((j + 1 : Nat) : Int)) = true := decide_eq_true (by omega)
              have di' : decide (0 < j + 1) = true := decide_eq_true (by omega)
              have HM' := Lib.hid hm'
              have hjn : j < n := by omega
              clear hm'
              have HLE2 := Lib.hid (show lnE b k (j + 1) = if (k = 0 ∨ tBit b k j = false) ∧ m ≤ m' then (160, A1) else (0, 0) by
                rw [HLE.out, Nat.add_sub_cancel, ← HM'.out]
                by_cases hh : (k = 0 ∨ tBit b k j = false) ∧ m ≤ m'
                · rw [if_pos ⟨by omega, hh⟩, if_pos hh]
                · rw [if_neg (fun h => hh h.2), if_neg hh])
              clear HLE
              have HLE := HLE2
              by_cases hle9 : m ≤ m'
              · have d2 : decide ((m : Int) ≤ (m' : Int)) = true := decide_eq_true (by omega)
                have d2' : decide (m ≤ m') = true := decide_eq_true hle9
                have HEV := Lib.hid (show lkE b k 0 0 = (160, A1) by
                  have e : lnE b k (j + 1) = (160, A1) := by rw [HLE.out, if_pos ⟨.inl HK0.out, hle9⟩]
                  rw [HST.out (by rw [e]; simp), e])
                go_upto_region 22 with fail
                go_quiet (fail)
                have HRQ := Lib.hid (HRL.out.below (below_drewN (Below.refl _ _) nq))
                have HBQ := Lib.hid (below_drewN HBLW.out nq)
                clear hcm hcm' HRL
                generalize wl.drewN nq = wq at HRQ HBQ ⊢
                have hA1i : (A : Int) + 1 = (A1 : Int) := by have := HA1.out; omega
                have hA1w : IntKind.i64.wrap (A1 : Int) = (A1 : Int) := by have := HA1.out; rw [IntKind.wrap_i64]; omega
                obtain ⟨n1, n2, n3, n4⟩ := (HRQ.out).sto ((A1 : Nat)) (160)
                obtain ⟨a0, a1, b0, b1, p0, p1, c0, c1, q0, q1⟩ := (HRQ.out).fs
                have HN1 := Lib.hid n1
                have HN2 := Lib.hid n2
                have HN3 := Lib.hid n3
                have HN4 := Lib.hid n4
                clear n1 n2 n3 n4
                go_wp2_with fail
                refine bodyPost_ret (results_cc rfl _ _ g6 g7 _ _ _ _ _ _ _ _ rfl HN1.out rfl HN2.out Tryd.underlying71 rfl HIL.out Tryd.underlying33 rfl HI2.out) rfl ⟨.slice (some ⟨gb, go, none⟩) n vc, .slice none 0 0, 0, 0, HQ.out, ?_, (fun h => by rw [HEV.out] at h; cases h), ⟨⟨_, _, _, rfl⟩, _, _, _, rfl⟩, HN3.out⟩
                rw [HEV.out]; rfl
              · have d2 : decide ((m : Int) ≤ (m' : Int)) = false := decide_eq_false (by omega)
                have d2' : decide (m ≤ m') = false := decide_eq_false hle9
                have HG := Lib.hid (HGO.out (by rw [HLE.out, if_neg (fun h => hle9 h.2)]))
                go_upto_region 22 with fail
                go_quiet (fail)
                have HRQ := Lib.hid (HRL.out.below (below_drewN (Below.refl _ _) nq))
                have HBQ := Lib.hid (below_drewN HBLW.out nq)
                clear hcm hcm' HRL
                generalize wl.drewN nq = wq at HRQ HBQ ⊢
                go_wp2_with fail
                exact ⟨⟨j + 1 + 1, by go_num, by omega, HG.out, HBQ.out⟩, by simp [intOf]; omega⟩
            · obtain rfl : i = 0 := by omega
              have di : decide ((0 : Int) < ((0 : Nat) : Int)) = false := rfl
              rw [Nat.add_zero] at hcm
              have HG := Lib.hid (HGO.out (by rw [HLE.out, if_neg (fun h => hi0 h.1)]))
              go_upto_region 22 with fail
              go_quiet (fail)
              have HRQ := Lib.hid (HRL.out.below (below_drewN (Below.refl _ _) nq))
              have HBQ := Lib.hid (below_drewN HBLW.out nq)
              clear hcm HRL
              generalize wl.drewN nq = wq at HRQ HBQ ⊢
              go_wp2_with fail
              exact ⟨⟨0 + 1, by go_num, by omega, HG.out, HBQ.out⟩, by simp [intOf] <;> omega⟩
          · have hie : i = n := by omega
            have HEV := Lib.hid (show lkE b k 0 0 = (0, 0) by rw [HEV1.out, ← hie]; exact ln_zero HLN.out)
            have dn : decide ((i : Int) < (n : Int)) = false := decide_eq_false (by omega)
            have dn' : decide (i < n) = false := decide_eq_false hin
            have hcap := hsl9.le
            have hcpm := hsl9.max
            clear hie hsl9
            obtain ⟨n1, n2, n3, n4⟩ := (HRL.out).sto (0) (0)
            obtain ⟨a0, a1, b0, b1, p0, p1, c0, c1, q0, q1⟩ := (HRL.out).fs
            have HN1 := Lib.hid n1
            have HN2 := Lib.hid n2
            have HN3 := Lib.hid n3
            have HN4 := Lib.hid n4
            clear n1 n2 n3 n4
            go_wp2_with fail
            refine bodyPost_ret (results_cc rfl _ _ g6 g7 _ _ _ _ _ _ _ _ rfl HN1.out rfl HN2.out Tryd.underlying71 rfl HIL.out Tryd.underlying33 rfl HI2.out) rfl ⟨.slice va n vc, .slice none 0 0, 0, 0, HQ.out, ?_, (fun _ => ⟨by rw [← HN.out]; exact ownsRow_mono (HOL.out.kept2 HN4.out (fun q e h => by have := (HOL.out.lt q e).1; have := HGS.out; omega)) (by have := HGS.out; omega), fun h => absurd h h0⟩), ⟨⟨_, _, _, rfl⟩, _, _, _, rfl⟩, HN3.out⟩
            rw [HEV.out]; rfl
end Go.Proofs.YtgajpekolamjbaaDoor
/- Levels that are right: the entries above a quad stay within their levels; what the document's Open says. Plain. -/
namespace Go.Tk
open Go Go.RowKit
/-- Four levels that are right: how many entries, their numbers, which are the last of their parents. -/
structure LvT (n : Nat → Nat) (M : Nat → Nat → Int) (B : Nat → Nat → Bool) : Prop where
  cnt : ∀ k, 0 < k → k < 4 → cF (B k) (n k) = n (k - 1)
  last : ∀ k, 0 < k → k < 4 → 0 < n k → B k (n k - 1) = true
  le : n 3 ≤ 1048576
  ok : ∀ k i, k < 4 → i < n k → okN k (M k i) = true
  up : ∀ k i, k < 4 → i + 1 < n k → (k = 0 ∨ B k i = false) → M k i < M k (i + 1)
/-- The entry of the level 3 - m above a quad. -/
def anT (B : Nat → Nat → Bool) : Nat → Nat → Nat
  | 0, t => t
  | m + 1, t => cF (B (3 - m)) (anT B m t)
/-- Does it move behind a quad? -/
def mvT (B : Nat → Nat → Bool) : Nat → Nat → Bool
  | 0, _ => true
  | m + 1, t => mvT B m t && B (3 - m) (anT B m t)
theorem cF_mono (f : Nat → Bool) {i j : Nat} (h : i ≤ j) : cF f i ≤ cF f j := by
  induction j with
  | zero => obtain rfl : i = 0 := by omega
            exact Nat.le_refl _
  | succ j ih =>
    by_cases e : i = j + 1
    · subst e; exact Nat.le_refl _
    · have := ih (by omega); simp only [cF]; omega
section
variable {n : Nat → Nat} {M : Nat → Nat → Int} {B : Nat → Nat → Bool}
theorem an_zero (B : Nat → Nat → Bool) : ∀ m, anT B m 0 = 0
  | 0 => rfl
  | m + 1 => by simp only [anT]; rw [an_zero B m]; rfl
theorem an_succ (B : Nat → Nat → Bool) (t : Nat) : ∀ m, anT B m (t + 1) = anT B m t + (if mvT B m t = true then 1 else 0)
  | 0 => rfl
  | m + 1 => by
    have h := an_succ B t m
    have e : mvT B (m + 1) t = (mvT B m t && B (3 - m) (anT B m t)) := rfl
    show cF (B (3 - m)) (anT B m (t + 1)) = cF (B (3 - m)) (anT B m t) + (if mvT B (m + 1) t = true then 1 else 0)
    rw [h]
    by_cases hm : mvT B m t = true
    · rw [if_pos hm]
      rw [hm, Bool.true_and] at e
      rw [e]
      rfl
    · rw [if_neg hm]
      have hm2 : mvT B m t = false := by simpa using hm
      rw [hm2, Bool.false_and] at e
      rw [e]
      simp
/-- The last of a level, and the last quad. -/
theorem an_end (T : LvT n M B) (h0 : 0 < n 3) : ∀ m, m < 4 → anT B m (n 3 - 1) + 1 = n (3 - m)
  | 0, _ => by show n 3 - 1 + 1 = n 3; omega
  | m + 1, hm => by
    have ih := an_end T h0 m (by omega)
    have hc := T.cnt (3 - m) (by omega) (by omega)
    have hl := T.last (3 - m) (by omega) (by omega) (by omega)
    rw [← ih, Nat.add_sub_cancel] at hl
    rw [← ih] at hc
    simp only [cF] at hc
    rw [hl] at hc
    simp only [anT]
    simp only [if_true] at hc
    rw [hc, show 3 - m - 1 = 3 - (m + 1) by omega]
theorem an_mono (B : Nat → Nat → Bool) {s t : Nat} (h : s ≤ t) : ∀ m, anT B m s ≤ anT B m t
  | 0 => h
  | m + 1 => cF_mono _ (an_mono B h m)
theorem an_lt (T : LvT n M B) {t : Nat} (h : t < n 3) {m : Nat} (hm : m < 4) : anT B m t < n (3 - m) := by
  have h1 := an_end T (by omega) m hm
  have h2 := an_mono B (show t ≤ n 3 - 1 by omega) m
  omega
theorem mv_down (B : Nat → Nat → Bool) (t m : Nat) (h : mvT B m t = false) : mvT B (m + 1) t = false := by simp [mvT, h]
end
end Go.Tk
namespace Go.Proofs.YtgajpekolamjbaaDoor
open Go Go.RowKit Go.Tk
theorem openq_is {bs : List UInt8} {x : Nat} (h : OpenQ bs x 0) : f4 bs 0 ≤ 67108864 ∧ 8 + (f4 bs 0 + 7) / 8 ≤ bs.length ∧ (daB bs (f4 bs 0)).length = (f4 bs 0 + 7) / 8 ∧ padB (daB bs (f4 bs 0)) (f4 bs 0) = true ∧ bs = whB (daB bs (f4 bs 0)) (f4 bs 0) := by
  rcases h with ⟨h0, _, h1⟩ | ⟨_, _, _, h1⟩ | ⟨_, _, _, _, h1⟩ | ⟨h0, hp, hc, hr⟩
  · exact absurd h1.symm h0
  · cases h1
  · cases h1
  rcases hr with ⟨_, _, _, _, _, _, h1⟩ | ⟨hall, ⟨_, _, h1⟩ | ⟨hlen, _, _⟩⟩
  · cases h1
  · cases h1
  obtain ⟨h8, hN, hm, hE, _⟩ := shF_ok h0
  have hE8 : 8 + (f4 bs 0 + 7) / 8 ≤ bs.length := by unfold oE oM oS oG at hE; omega
  have hdl := da_len bs (f4 bs 0) hE8
  refine ⟨hN, hE8, hdl, hp, ?_⟩
  obtain ⟨e1, e2, e3, e4⟩ := o_eq hdl
  have hle : bs.length = enO (daB bs (f4 bs 0)) (f4 bs 0) := by rw [hlen, ← e4, hc]
  apply list_getD
  · rw [wh_len', hle]
  intro i hi
  by_cases a : oG (f4 bs 0) ≤ i
  · exact hall i a (by omega)
  have hg : oG (f4 bs 0) = 8 + (f4 bs 0 + 7) / 8 := by unfold oG; rfl
  by_cases b : 8 ≤ i
  · obtain ⟨k, rfl⟩ : ∃ k, i = 8 + k := ⟨i - 8, by omega⟩
    rw [wh_lo _ _ _ (by omega)]
    unfold daB
    rw [List.getD_eq_getElem?_getD, List.getD_eq_getElem?_getD, List.getElem?_take, if_pos (by omega), List.getElem?_drop]
  · by_cases c : i < 4
    · apply u8_eq
      rw [(wh_hd _ _ i c hN).1, f4_dig bs 0 i c, Nat.zero_add]
    · obtain ⟨k, rfl⟩ : ∃ k, i = 4 + k := ⟨i - 4, by omega⟩
      apply u8_eq
      rw [(wh_hd _ _ k (by omega) hN).2, hc, f4_dig bs 4 k (by omega)]
section
variable {b : List UInt8} {xs ys : Nat → Nat}
/-- What holds of a level that Open takes. -/
structure LkOk (b : List UInt8) (k : Nat) : Prop where
  op : opErr (nums (tP b k)) (tN b k : Nat) (tW b k : Nat) = 0
  w : bw (mxN b k (tN b k) : Nat) = (tW b k : Nat)
  vc : 0 < k → ∃ d : List UInt8, tB b k = whB d (tN b k) ∧ d.length = (tN b k + 7) / 8 ∧ padB d (tN b k) = true ∧ cntB d (tN b k) = tN b (k - 1)
  last : 0 < k → 0 < tN b k → tBit b k (tN b k - 1) = true
  ok : ∀ i, i < tN b k → okN k (tM b k i : Nat) = true
  up : ∀ i, i + 1 < tN b k → (k = 0 ∨ tBit b k i = false) → tM b k i < tM b k (i + 1)
theorem ln_ok {k : Nat} : ∀ {j : Nat}, (lnS b k j).1 = 0 → ∀ i, i < j → (lnE b k i).1 = 0
  | 0, _, i, hi => by omega
  | j + 1, h, i, hi => by
    simp only [lnS] at h
    by_cases h1 : (lnS b k j).1 ≠ 0
    · rw [if_pos h1] at h; exact absurd h h1
    rw [if_neg h1] at h
    by_cases e : i = j
    · subst e; exact h
    · exact ln_ok (Classical.not_not.1 h1) i (by omega)
theorem lk_ok {k x y : Nat} (hx : lkU b k → OpenQ (tB b k) x y) (hN : tN b k ≤ 1048576) (h : (lkE b k x y).1 = 0) : LkOk b k := by
  unfold lkE at h
  by_cases h1 : opErr (nums (tP b k)) (tN b k : Nat) (tW b k : Nat) ≠ 0
  · rw [if_pos h1] at h; exact absurd h h1
  rw [if_neg h1] at h
  by_cases h2 : bw (mxN b k (tN b k) : Nat) ≠ (tW b k : Nat)
  · rw [if_pos h2] at h; cases h
  rw [if_neg h2] at h
  by_cases h3 : 0 < k ∧ (lkB b k x y).1 ≠ 0
  · rw [if_pos h3] at h; exact absurd h h3.2
  rw [if_neg h3] at h
  have h1' := Classical.not_not.1 h1
  have h2' := Classical.not_not.1 h2
  have hv : 0 < k → tV b k = true ∧ y = 0 ∧ ¬ (0 < tN b k ∧ tBit b k (tN b k - 1) = false) := by
    intro h0
    have h4 : (lkB b k x y).1 = 0 := Classical.byContradiction fun hn => h3 ⟨h0, hn⟩
    unfold lkB at h4
    by_cases g1 : tV b k = false
    · rw [if_pos g1] at h4; cases h4
    rw [if_neg g1] at h4
    by_cases g2 : y ≠ 0
    · rw [if_pos g2] at h4; exact absurd (by simpa using h4) g2
    rw [if_neg g2] at h4
    by_cases g3 : 0 < tN b k ∧ tBit b k (tN b k - 1) = false
    · rw [if_pos g3] at h4; cases h4
    exact ⟨by simpa using g1, Classical.not_not.1 g2, g3⟩
  have hE := ln_ok h
  refine ⟨h1', h2', fun h0 => ?_, fun h0 hn => ?_, fun i hi => ?_, fun i hi hb => ?_⟩
  · obtain ⟨g1, rfl, _⟩ := hv h0
    have ho := hx ⟨h0, g1, h1', h2'⟩
    obtain ⟨o1, o2, o3, o4, o5⟩ := openq_is ho
    unfold tV at g1
    simp only [Bool.and_eq_true, decide_eq_true_eq] at g1
    obtain ⟨⟨⟨_, _⟩, e0⟩, e4⟩ := g1
    rw [e0] at o3 o4 o5
    refine ⟨_, o5, o3, o4, ?_⟩
    rw [← wh_m (d := daB (tB b k) (tN b k)) (N := tN b k) (by omega), ← o5, e4]
  · have := (hv h0).2.2
    cases hb : tBit b k (tN b k - 1) with
    | true => rfl
    | false => exact absurd ⟨hn, hb⟩ this
  · have := hE i hi
    unfold lnE at this
    by_cases g : okN k (tM b k i : Nat) = false
    · rw [if_pos g] at this; cases this
    · simpa using g
  · have := hE (i + 1) hi
    unfold lnE at this
    by_cases g : okN k (tM b k (i + 1) : Nat) = false
    · rw [if_pos g] at this; cases this
    rw [if_neg g] at this
    by_cases g2 : 0 < i + 1 ∧ (k = 0 ∨ tBit b k (i + 1 - 1) = false) ∧ tM b k (i + 1) ≤ tM b k (i + 1 - 1)
    · rw [if_pos g2] at this; cases this
    · rw [Nat.add_sub_cancel] at g2
      refine Classical.byContradiction fun hn => g2 ⟨by omega, hb, by omega⟩
/-- A level's bits are those of its data. -/
theorem bit_data {k : Nat} {d : List UInt8} (h : tB b k = whB d (tN b k)) (hl : d.length = (tN b k + 7) / 8) {i : Nat} (hi : i < tN b k) : tBit b k i = btB d i := by
  unfold tBit
  rw [decide_eq_true hi, Bool.true_and, h]
  obtain ⟨t, ht⟩ := dat_wh d (tN b k)
  rw [ht, bt_app _ _ _ (by omega)]
theorem lv_lvT (hC : ∀ k, k < 4 → CnOk b k) (hK : ∀ k, k < 4 → LkOk b k) : LvT (tN b) (fun k i => ((tM b k i : Nat) : Int)) (tBit b) := by
  refine ⟨fun k h0 hk => ?_, fun k h0 hk hn => (hK k hk).last h0 hn, (hC 3 (by omega)).le, fun k i hk hi => (hK k hk).ok i hi, fun k i hk hi hb => by have := (hK k hk).up i hi hb; show ((tM b k i : Nat) : Int) < ((tM b k (i + 1) : Nat) : Int); omega⟩
  obtain ⟨d, e1, e2, e3, e4⟩ := (hK k hk).vc h0
  rw [← e4]
  exact (cnt_cF d (tBit b k) (tN b k) (fun j hj => (bit_data e1 e2 hj).symm)).symm
/-- The same level, looked over twice. -/
theorem lk_same {k x y x' y' : Nat} (h : lkU b k → OpenR (tB b k) x y) (h' : lkU b k → OpenQ (tB b k) x' y') : lkE b k x y = lkE b k x' y' := by
  by_cases hu : lkU b k
  · obtain ⟨rfl, rfl⟩ := open_same (h hu) (h' hu)
    rfl
  · unfold lkE
    by_cases h1 : opErr (nums (tP b k)) (tN b k : Nat) (tW b k : Nat) ≠ 0
    · rw [if_pos h1, if_pos h1]
    rw [if_neg h1, if_neg h1]
    by_cases h2 : bw (mxN b k (tN b k) : Nat) ≠ (tW b k : Nat)
    · rw [if_pos h2, if_pos h2]
    rw [if_neg h2, if_neg h2]
    by_cases h0 : 0 < k
    · have hv : tV b k = false := by
        cases hv : tV b k with
        | false => rfl
        | true => exact absurd ⟨h0, hv, Classical.not_not.1 h1, Classical.not_not.1 h2⟩ hu
      have e : ∀ x y, lkB b k x y = (180, tE b k) := fun x y => by unfold lkB; rw [if_pos hv]
      rw [e, e]
    · rw [if_neg (fun h => h0 h.1), if_neg (fun h => h0 h.1)]
/-- The levels before k, as the document opens them. -/
def opKQ (b : List UInt8) (xs ys : Nat → Nat) (k : Nat) : Prop := (opT b xs ys k).1 = 0 ∧ ∀ j, j < k → lkU b j → OpenQ (tB b j) (xs j) (ys j)
def opUQ (b : List UInt8) (xs ys : Nat → Nat) : Prop := ∀ k, k < 4 → (opT b xs ys k).1 = 0 → lkU b k → OpenQ (tB b k) (xs k) (ys k)
theorem opKQ.next {k x y : Nat} (h : opKQ b xs ys k) (hx : lkU b k → OpenQ (tB b k) x y) (h0 : (lkE b k x y).1 = 0) : opKQ b (upF xs k x) (upF ys k y) (k + 1) := by
  refine ⟨by rw [op_up h.1]; exact h0, fun j hj hu => ?_⟩
  by_cases hk : j = k
  · subst hk; rw [upF_at, upF_at]; exact hx hu
  · rw [upF_ne _ hk, upF_ne _ hk]; exact h.2 j (by omega) hu
theorem opKQ.fin (h : opKQ b xs ys 4) : opUQ b xs ys := fun k hk _ hu => h.2 k hk hu
theorem opKQ.bad {k x y : Nat} (h : opKQ b xs ys k) (hx : lkU b k → OpenQ (tB b k) x y) (h0 : (lkE b k x y).1 ≠ 0) (hk : k < 4) : opUQ b (upF xs k x) (upF ys k y) ∧ opT b (upF xs k x) (upF ys k y) 4 = lkE b k x y := by
  have h1 : opT b (upF xs k x) (upF ys k y) (k + 1) = lkE b k x y := op_up h.1
  have h2 := fun {j : Nat} (hj : k + 1 ≤ j) => op_stop (b := b) (xs := upF xs k x) (ys := upF ys k y) (k := k + 1) (j := j) (by rw [h1]; exact h0) hj
  refine ⟨fun j hj hz hu => ?_, by rw [h2 (by omega), h1]⟩
  by_cases hjk : j = k
  · subst hjk; rw [upF_at, upF_at]; exact hx hu
  by_cases hlt : j < k
  · rw [upF_ne _ hjk, upF_ne _ hjk]; exact h.2 j hlt hu
  · rw [h2 (by omega), h1] at hz; exact absurd hz h0
/-- The program and the document say the same. -/
theorem op_same {xs' ys' : Nat → Nat} (h : opU b xs ys) (h' : opUQ b xs' ys') : opT b xs ys 4 = opT b xs' ys' 4 := by
  have key : ∀ k, k ≤ 4 → opT b xs ys k = opT b xs' ys' k := by
    intro k
    induction k with
    | zero => intro _; rfl
    | succ k ih =>
      intro hk
      have e := ih (by omega)
      simp only [opT]
      by_cases h0 : (opT b xs ys k).1 ≠ 0
      · rw [if_pos h0, if_pos (by rw [← e]; exact h0), e]
      · rw [if_neg h0, if_neg (by rw [← e]; exact h0)]
        exact lk_same (h k (by omega) (Classical.not_not.1 h0)) (h' k (by omega) (by rw [← e]; exact Classical.not_not.1 h0))
  exact key 4 (Nat.le_refl _)
/-- All four levels are right. -/
theorem lvt_of (hv : (vwE b).1 = 0) (h : opKQ b xs ys 4) : LvT (tN b) (fun k i => ((tM b k i : Nat) : Int)) (tBit b) ∧ (∀ k, k < 4 → CnOk b k) := by
  have hl : (lvE b 4).1 = 0 := by
    unfold vwE at hv
    by_cases hl : (lvE b 4).1 ≠ 0
    · rw [if_pos hl] at hv; exact absurd hv hl
    · exact Classical.not_not.1 hl
  obtain ⟨_, hC, hL⟩ := lv_ok hl
  have hz : ∀ k, k ≤ 4 → (opT b xs ys k).1 = 0 := fun k hk => Classical.byContradiction fun hn => by
    have := op_stop (k := k) (j := 4) hn hk; have h4 := h.1; rw [this] at h4; exact hn h4
  have hK : ∀ k, k < 4 → LkOk b k := fun k hk => by
    have h1 := hz (k + 1) (by omega)
    simp only [opT] at h1
    rw [if_neg (by rw [hz k (by omega)]; simp)] at h1
    exact lk_ok (h.2 k hk) (hC k hk).le h1
  exact ⟨lv_lvT hC hK, hC⟩
end
end Go.Proofs.YtgajpekolamjbaaDoor
