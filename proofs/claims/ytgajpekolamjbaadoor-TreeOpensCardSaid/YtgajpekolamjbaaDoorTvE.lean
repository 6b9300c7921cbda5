/- TdB TvL TvE, laid as one. -/
import Derived.Test.YtgajpekolamjbaaDoorTdA
import Derived.Test.YtgajpekolamjbaaDoorRkRo
import Derived.Test.YtgajpekolamjbaaDoorHeD
import Derived.Test.YtgajpekolamjbaaDoorTwB
import Derived.Test.YtgajpekolamjbaaDoorPkO
import Derived.Test.YtgajpekolamjbaaDoorRkY
import Derived.Test.YtgajpekolamjbaaDoorTrP
import Derived.Test.YtgajpekolamjbaaDoorTvC
import Derived.Test.YtgajpekolamjbaaDoorTrA
set_option linter.unusedVariables false
set_option linter.unusedSimpArgs false
/- The document's View. -/
namespace Go.Tk
open Go Go.RowKit
theorem rowC_ints {N : Nat} {cs : Nat → Value} (h : ∀ i, i < N → ∃ x, cs i = .int .i64 x) : (rowC N cs).all (·.oneCell') = true := by
  rw [Array.all_eq_true]
  intro i hi
  have hi' : i < N := by simpa [rowC] using hi
  obtain ⟨x, hx⟩ := h i hi'
  have : (rowC N cs)[i] = cs i := by
    have := rowC_at (cs := cs) hi'
    rw [Array.getElem?_eq_getElem hi] at this
    exact Option.some.inj this
  rw [this, hx]; rfl
theorem rowC_to {w : World} {g N : Nat} {T : TypeId} {cs cs' : Nat → Value} (h : RowC w g N T cs) (hc : ∀ i, i < N → cs' i = cs i) : RowC w g N T cs' := by
  have e : rowC N cs' = rowC N cs := by
    apply Array.ext_getElem?
    intro i
    by_cases hi : i < N
    · rw [rowC_at hi, rowC_at hi, hc i hi]
    · rw [Array.getElem?_eq_none (by simp [rowC]; omega), Array.getElem?_eq_none (by simp [rowC]; omega)]
  unfold RowC; rw [e]; exact h
theorem rowC_size (N : Nat) (cs : Nat → Value) : (rowC N cs).size = N := by simp [rowC]
end Go.Tk
namespace Go.Proofs.YtgajpekolamjbaaDoor
open Go Go.RowKit Go.Tk
def hz (i : Nat) : Value := .int .i64 0
theorem hz_row : rowC 13 hz = #[.int .i64 0, .int .i64 0, .int .i64 0, .int .i64 0, .int .i64 0, .int .i64 0, .int .i64 0, .int .i64 0, .int .i64 0, .int .i64 0, .int .i64 0, .int .i64 0, .int .i64 0] := rfl
/-- The head behind k levels. -/
def hvN (b : List UInt8) (k : Nat) (i : Nat) : Value := if i < 4 then .int .i64 (tN b i : Nat) else if i < 8 then (if i - 4 < k then .int .i64 (tA b (i - 4) : Nat) else .int .i64 0) else if i < 12 then (if i - 8 < k then .int .i64 (tE b (i - 8) : Nat) else .int .i64 0) else .int .i64 0
def hvT (b : List UInt8) (i : Nat) : Value := if i = 12 then .int .i64 (tA b 4 : Nat) else hvN b 4 i
theorem hvN_zero (b : List UInt8) : ∀ i, i < 13 → hvN b 0 i = hcN b 4 hz i := fun i hi => by
  unfold hvN hcN hz
  by_cases h1 : i < 4
  · rw [if_pos h1, if_pos h1]
  rw [if_neg h1, if_neg h1]
  split
  · rw [if_neg (by omega)]
  · split
    · rw [if_neg (by omega)]
    · rfl
theorem hvN_set (b : List UInt8) {k : Nat} (hk : k < 4) : ∀ i, i < 13 → hvN b (k + 1) i = setF (setF (hvN b k) (4 + k) (.int .i64 (tA b k : Nat))) (8 + k) (.int .i64 (tE b k : Nat)) i := fun i hi => by
  by_cases e8 : i = 8 + k
  · subst e8
    rw [setF_same]
    unfold hvN
    rw [if_neg (by omega), if_neg (by omega), if_pos (by omega), if_pos (by omega), show 8 + k - 8 = k by omega]
  rw [setF_other _ _ e8]
  by_cases e4 : i = 4 + k
  · subst e4
    rw [setF_same]
    unfold hvN
    rw [if_neg (by omega), if_pos (by omega), if_pos (by omega), show 4 + k - 4 = k by omega]
  rw [setF_other _ _ e4]
  unfold hvN
  by_cases h1 : i < 4
  · rw [if_pos h1, if_pos h1]
  rw [if_neg h1, if_neg h1]
  by_cases h2 : i < 8
  · rw [if_pos h2, if_pos h2]
    by_cases h3 : i - 4 < k
    · rw [if_pos h3, if_pos (by omega)]
    · rw [if_neg h3, if_neg (by omega)]
  rw [if_neg h2, if_neg h2]
  by_cases h4 : i < 12
  · rw [if_pos h4, if_pos h4]
    by_cases h3 : i - 8 < k
    · rw [if_pos h3, if_pos (by omega)]
    · rw [if_neg h3, if_neg (by omega)]
  rw [if_neg h4, if_neg h4]
theorem hvN_int (b : List UInt8) (k : Nat) : ∀ i, i < 13 → ∃ x, hvN b k i = .int .i64 x := fun i hi => by
  unfold hvN
  repeat' split
  all_goals exact ⟨_, rfl⟩
theorem hvT_set (b : List UInt8) : ∀ i, i < 13 → hvT b i = setF (hvN b 4) 12 (.int .i64 (tA b 4 : Nat)) i := fun i hi => by
  unfold hvT
  by_cases h : i = 12
  · subst h; rw [setF_same, if_pos rfl]
  · rw [setF_other _ _ h, if_neg h]
/-- What the document's View hands back. -/
def RvwR (w : World) (b : List UInt8) (e : Ending) (w' : World) : Prop :=
  Below w.heap.size w w' ∧ ∃ cs : Nat → Value, e = .returned (.tuple #[.agg (rowC 13 cs), flT (vwE b)]) ∧ (∀ i, i < 13 → ∃ x, cs i = .int .i64 x) ∧ ((vwE b).1 = 0 → ∀ i, i < 13 → cs i = hvT b i)
/-- The two results of View, not yet stored. -/
structure RvS (w W : World) (g : Nat) : Prop where
  r2 : RowC W g 13 31 hz
  r3 : W.heap[g + 1]? = some (.cells #[.int .i64 0, .int .i64 0] 33 (0, 0))
  bl : Below w.heap.size w W
  gb : w.heap.size ≤ g
theorem RvS.below {w W W' : World} {g : Nat} (h : RvS w W g) (hb : Below W.heap.size W W') : RvS w W' g :=
  ⟨h.r2.below hb, (hb.block _ (lt_of_block h.r3)).trans h.r3, h.bl.trans (hb.mono h.bl.size), h.gb⟩
theorem RvS.kept {S : Nat → Prop} {w W W' : World} {g : Nat} (h : RvS w W g) (hk : Kept S W W') (h1 : ¬ S g) (h2 : ¬ S (g + 1)) (h3 : ∀ j, S j → w.heap.size ≤ j) : RvS w W' g :=
  ⟨h.r2.kept hk h1, (hk.block _ (lt_of_block h.r3) h2).trans h.r3, h.bl.trans (hk.below h.bl.size h3), h.gb⟩
/-- The results are stored: the whole head, then the fault. -/
theorem RvS.sto {w W : World} {g : Nat} (h : RvS w W g) (cs : Nat → Value) (x y : Value) :
    (((W.setRow g (rowC 13 cs)).setCell ⟨g + 1, 0, none⟩ x).setCell ⟨g + 1, 1, none⟩ y).heap[g]? = some (.cells (rowC 13 cs) 31 (0, 0)) ∧
    (((W.setRow g (rowC 13 cs)).setCell ⟨g + 1, 0, none⟩ x).setCell ⟨g + 1, 1, none⟩ y).heap[g + 1]? = some (.cells #[x, y] 33 (0, 0)) ∧
    Below w.heap.size w (((W.setRow g (rowC 13 cs)).setCell ⟨g + 1, 0, none⟩ x).setCell ⟨g + 1, 1, none⟩ y) := by
  have h3 : (W.setRow g (rowC 13 cs)).heap[g + 1]? = some (.cells #[.int .i64 0, .int .i64 0] 33 (0, 0)) := (setRow_other _ _ _ _ (by omega)).trans h.r3
  refine ⟨?_, stor2O h3, ?_⟩
  · exact (heap_setCell_other _ _ _ _ (by simp)).trans ((heap_setCell_other _ _ _ _ (by simp)).trans (setRow_heap W g _ (rowC 13 cs) _ _ h.r2))
  · have hgb := h.gb
    exact ((below_setRow h.bl hgb _).setCell (p := ⟨g + 1, 0, none⟩) (by simp; omega) _).setCell (p := ⟨g + 1, 1, none⟩) (by simp; omega) _
structure RvF (W : World) (g : Nat) : Prop where
  c0 : W.cell? ⟨g + 1, 0, none⟩ = some (.int .i64 0)
  c1 : W.cell? ⟨g + 1, 1, none⟩ = some (.int .i64 0)
  f0 : W.frozen? ⟨g + 1, 0, none⟩ = false
  f1 : W.frozen? ⟨g + 1, 1, none⟩ = false
theorem RvS.fs {w W : World} {g : Nat} (h : RvS w W g) (cs : Nat → Value) : RvF (W.setRow g (rowC 13 cs)) g := by
  have h3 : (W.setRow g (rowC 13 cs)).heap[g + 1]? = some (.cells #[.int .i64 0, .int .i64 0] 33 (0, 0)) := (setRow_other _ _ _ _ (by omega)).trans h.r3
  exact ⟨cellT0 h3, cellT1 h3, frozen_of_row _ _ 0 _ _ h3, frozen_of_row _ _ 1 _ _ h3⟩
end Go.Proofs.YtgajpekolamjbaaDoor
/- What Open says of a level. Plain. -/
namespace Go.Proofs.YtgajpekolamjbaaDoor
open Go Go.RowKit Go.Tk
/-- The number of an entry of a level; the greatest of the first ones; the bit of an entry. -/
def tM (b : List UInt8) (k i : Nat) : Nat := numF (tP b k) (tW b k) i
def mxN (b : List UInt8) (k : Nat) : Nat → Nat
  | 0 => 0
  | i + 1 => max (mxN b k i) (tM b k i)
def tBit (b : List UInt8) (k i : Nat) : Bool := decide (i < tN b k) && btB (datB (tB b k)) i
/-- What is wrong with a level's vector. -/
def lkB (b : List UInt8) (k x y : Nat) : Int × Nat :=
  if tV b k = false then (180, tE b k) else if y ≠ 0 then ((y : Nat), tE b k + x) else if 0 < tN b k ∧ tBit b k (tN b k - 1) = false then (180, tE b k) else (0, 0)
/-- What is wrong with an entry. -/
def lnE (b : List UInt8) (k i : Nat) : Int × Nat :=
  if okN k (tM b k i : Nat) = false then (180, tA b k + 1) else if 0 < i ∧ (k = 0 ∨ tBit b k (i - 1) = false) ∧ tM b k i ≤ tM b k (i - 1) then (160, tA b k + 1) else (0, 0)
def lnS (b : List UInt8) (k : Nat) : Nat → Int × Nat
  | 0 => (0, 0)
  | i + 1 => if (lnS b k i).1 ≠ 0 then lnS b k i else lnE b k i
/-- What look says. -/
def lkE (b : List UInt8) (k x y : Nat) : Int × Nat :=
  if opErr (nums (tP b k)) (tN b k : Nat) (tW b k : Nat) ≠ 0 then (opErr (nums (tP b k)) (tN b k : Nat) (tW b k : Nat), tE b k - 1) else
  if bw (mxN b k (tN b k) : Nat) ≠ (tW b k : Nat) then (14, tA b k) else
  if 0 < k ∧ (lkB b k x y).1 ≠ 0 then lkB b k x y else lnS b k (tN b k)
theorem ln_stop (b : List UInt8) (k : Nat) {i j : Nat} (h : i ≤ j) (he : (lnS b k i).1 ≠ 0) : lnS b k j = lnS b k i := by
  induction j with
  | zero => have : i = 0 := by omega
            subst this; rfl
  | succ j ih =>
    by_cases hk : i = j + 1
    · subst hk; rfl
    · have := ih (by omega)
      simp only [lnS]
      rw [this, if_pos he]
theorem ln_zero {b : List UInt8} {k : Nat} : ∀ {j : Nat}, (lnS b k j).1 = 0 → lnS b k j = (0, 0)
  | 0, _ => rfl
  | j + 1, h => by
    simp only [lnS] at h ⊢
    by_cases h1 : (lnS b k j).1 ≠ 0
    · rw [if_pos h1] at h; exact absurd h h1
    rw [if_neg h1] at h ⊢
    unfold lnE at h ⊢
    by_cases h2 : okN k (tM b k j : Nat) = false
    · rw [if_pos h2] at h; cases h
    rw [if_neg h2] at h ⊢
    by_cases h3 : 0 < j ∧ (k = 0 ∨ tBit b k (j - 1) = false) ∧ tM b k j ≤ tM b k (j - 1)
    · rw [if_pos h3] at h; cases h
    rw [if_neg h3]
theorem mxN_lt (b : List UInt8) (k : Nat) (h : tW b k ≤ 23) : ∀ i, mxN b k i < 8388608
  | 0 => by simp [mxN]
  | i + 1 => by
    have h1 := mxN_lt b k h i
    have h2 := numF_lt (tP b k) (tW b k) i h
    simp only [mxN]
    unfold tM
    omega
end Go.Proofs.YtgajpekolamjbaaDoor
/- look: is a level right? -/
namespace Go.Tk
open Go Go.RowKit
theorem wh_two8 {P : Program} {ops : Array Oper} {Q : Exit → Act → World → Prop} {md : Region.Mode} {S : World → Prop} (i j : Nat) {fuel : Nat} {listed : Array Bool} {a : Act} {w : World} (hr : Region.ready md ops listed = [i, j])
    (h1 : wpOp P ops Q i (fun a' w' => S w' ∧ wpAnyH P md ops Q S fuel (listed.setIfInBounds i true) a' w') a w) (h2 : wpOp P ops Q j (fun a' w' => S w' ∧ wpAnyH P md ops Q S fuel (listed.setIfInBounds j true) a' w') a w) : wpAnyH P md ops Q S (fuel + 1) listed a w :=
  wpAnyH_all hr (by simp) (by simp only [List.mem_cons, List.not_mem_nil, or_false]; rintro k (rfl | rfl); exact h1; exact h2)
theorem wo_step8 {P : Program} {ops : Array Oper} {Q : Exit → Act → World → Prop} (i : Nat) (v : Value) {K : Act → World → Prop} {o : Oper} {a : Act} {w w' : World} (hi : ops[i]? = some o) (hg : o.guard = none)
    (hy : (execOp a.eval o).run P w = .ok (.value v) w') (h : K (a.put o.dst v) w') : wpOp P ops Q i K a w := by
  unfold Go.wpOp
  simp only [hi, wanted_free (ops := ops) (x := a.tmps) hg, if_true, Oper.wp, hy, Oper.upon]
  exact .inl h
theorem wo_call8 {P : Program} {ops : Array Oper} {Q : Exit → Act → World → Prop} (i : Nat) (v : Value) (R : World → Prop) {K : Act → World → Prop} {o : Oper} {a : Act} {w : World} {f : FuncId} {args : Array Value} (hi : ops[i]? = some o) (hg : o.guard = none)
    (he : (execOp a.eval o).run P w = .ok (.enter f args) w) (hc : Calls P f args w fun e w' => e = .returned v ∧ R w') (h : ∀ w', R w' → K (a.put o.dst v) w') : wpOp P ops Q i K a w := by
  unfold Go.wpOp
  simp only [hi, wanted_free (ops := ops) (x := a.tmps) hg, if_true, Oper.wp, he, Oper.upon]
  refine .inl (hc.mono ?_)
  rintro e w' ⟨rfl, hR⟩
  exact h w' hR
theorem exec_store_row {P : Program} {o : Oper} {a : Act} {w : World} (ty : TypeId) (x y : Operand) (ho : o.op = .store ty x y) (g : Nat) (cells : Array Value) (hx : a.eval x = .pointer (some ⟨g, 0, none⟩)) (hy : a.eval y = .agg cells)
    (t : TypeId) (old : Array Value) (hg : w.heap[g]? = some (.cells old t (0, 0))) (hi : (P.info? ty).map (·.size) = some cells.size) (hold : old.size = cells.size) (h1 : cells.all (·.oneCell') = true) :
    (execOp a.eval o).run P w = .ok .skip (w.setRow g cells) := by
  unfold execOp
  simp only [ho, hx, hy, Instr.storeAt, Instr.sureAddr, Sem.run_bind, Sem.run_pure, Result.andThen_ok, run_storeVar_row w g t ty old cells hg hi hold h1]
end Go.Tk
namespace Go.Proofs.YtgajpekolamjbaaDoor
open Go Go.RowKit Go.Tk
theorem opVal_agg8 (zs : List Int) (a : Option Addr) (c : Nat) (n wd : Int) : ∃ pa pl pc pi pj, opVal zs a c n wd = .agg #[.slice pa pl pc, .int .i64 pi, .int .i64 pj] := by
  unfold opVal; split <;> exact ⟨_, _, _, _, _, rfl⟩
theorem pk_one (ua : Option Addr) (ul uc : Nat) (ui uj : Int) : (#[.slice ua ul uc, .int .i64 ui, .int .i64 uj] : Array Value).all (·.oneCell') = true := by simp [Value.oneCell']
theorem Tryd.sizePk8 : (Tryd.prog.info? 104).map (·.size) = some 3 := by kernel_rfl
theorem open_le {bs : List UInt8} {x y : Nat} (h : OpenR bs x y) : x ≤ bs.length + 2000000000 := by
  rcases h with ⟨_, h, _⟩ | ⟨h0, _, h, _⟩ | ⟨_, _, _, h, _⟩ | ⟨h0, _, _, f, L, h1, h2, h3⟩
  · rw [h]; unfold shF; split
    · simp
    split
    · simp
    split
    · simp only; omega
    split
    · simp
    · simp
  · have := f4_lt bs 0
    rw [h]; unfold oG; omega
  · omega
  · have h4 := shF_ok h0
    have h5 := h1.bd (fun t h => (h2 t).1 h)
    have h6 : enO (daB bs (f4 bs 0)) (f4 bs 0) ≤ 2000000000 := by
      have h7 := cnt_le (daB bs (f4 bs 0)) (f4 bs 0)
      have h8 : (daB bs (f4 bs 0)).length ≤ (f4 bs 0 + 7) / 8 := by unfold daB; rw [List.length_take]; omega
      unfold enO mkO smO grO; omega
    rcases h3 with ⟨_, h3, _⟩ | ⟨_, _, h3, _⟩ | ⟨_, _, h3, _⟩
    · omega
    · omega
    · omega
/-- Does look open the level's vector? -/
def lkU (b : List UInt8) (k : Nat) : Prop := 0 < k ∧ tV b k = true ∧ opErr (nums (tP b k)) (tN b k : Nat) (tW b k : Nat) = 0 ∧ bw (mxN b k (tN b k) : Nat) = (tW b k : Nat)
/-- What look hands back. -/
def LookR (w : World) (b : List UInt8) (k : Nat) (e : Ending) (w' : World) : Prop :=
  Below w.heap.size w w' ∧ ∃ x y v, (lkU b k → OpenR (tB b k) x y) ∧ e = .returned v ∧ EV w' v (lkE b k x y).2 (lkE b k x y).1
theorem LookR.mk {w w3 w9 : World} {b : List UInt8} {k b9 x y : Nat} {er : Int × Nat} (h3 : Below w.heap.size w w3) (h9 : Below w3.heap.size w3 w9) (hU : lkU b k → OpenR (tB b k) x y) (hE : lkE b k x y = er) (h0 : er.1 ≠ 0)
    (hr : w9.heap[b9]? = some (.cells #[.int .i64 (er.2 : Nat), .iface 54 (.int .i64 er.1)] 65 (0, 0))) : LookR w b k (.returned (.iface 61 (.pointer (some ⟨b9, 0, none⟩)))) w9 :=
  ⟨h3.trans (h9.mono h3.size), x, y, _, hU, rfl, .inr ⟨b9, by rw [hE]; exact h0, rfl, by rw [hE]; exact hr⟩⟩
set_option maxRecDepth 100000 in
set_option maxHeartbeats 30000000 in
theorem look_calls (w : World) (gd : Nat) (b : List UInt8) (a : Option Addr) (cap : Nat) (vp : Nat → Option Addr) (hT : TreeM w gd b a cap vp) (hlen : b.length ≤ 140737488355328) (k : Nat) (hk : k < 4) (p : Nat) (hp : p = k * 8) :
    Calls Tryd.prog 22 #[.pointer (some ⟨gd, p, none⟩), .int .i64 (k : Nat)] w (LookR w b k) := by
  have hlv : (lvE b 4).1 = 0 := by
    have h := hT.ok
    unfold vwE at h
    by_cases h1 : (lvE b 4).1 ≠ 0
    · rw [if_pos h1] at h; rw [h]
    · exact Classical.not_not.1 h1
  obtain ⟨h00, hcn, hlo⟩ := lv_ok hlv
  have hcnk := hcn k hk
  have hlok := hlo k hk
  have hcell := fun X (hX : Below w.heap.size w X) f (hf : f < 8) => show X.cell? ⟨gd, p + f, none⟩ = some (lvc b a cap (vp k) k f) by
    have := RowC.cell (hT.row.below hX) (i := k * 8 + f) (by omega)
    rw [hp, this]
    unfold tvC
    rw [if_pos (by omega), show (k * 8 + f) / 8 = k by omega, show (k * 8 + f) % 8 = f by omega]
  obtain ⟨nk, hnk⟩ : ∃ nk, nk = tN b k := ⟨_, rfl⟩
  obtain ⟨wd, hwd⟩ : ∃ wd, wd = tW b k := ⟨_, rfl⟩
  obtain ⟨ea, hea⟩ : ∃ ea, ea = tA b k := ⟨_, rfl⟩
  obtain ⟨en, hen⟩ : ∃ en, en = tE b k := ⟨_, rfl⟩
  obtain ⟨nx, hnx⟩ : ∃ nx, nx = tA b (k + 1) := ⟨_, rfl⟩
  have hwd2 : wd ≤ 23 := by rw [hwd]; exact hlok.wd
  have hnk2 : nk ≤ 1048576 := by rw [hnk]; exact hcnk.le
  have hnxl : nx ≤ b.length := by rw [hnx]; exact hlok.en
  have hen1 : ea + 1 ≤ en := by rw [hea, hen]; exact tE_ge b k
  have henx : en ≤ nx := by rw [hen, hnx]; exact tX_ge b k
  have c0 : ∀ X, Below w.heap.size w X → X.cell? ⟨gd, p, none⟩ = some (.int .i64 (nk : Nat)) := fun X hX => by have := hcell X hX 0 (by omega); rw [hnk]; exact this
  have c1 : ∀ X, Below w.heap.size w X → X.cell? ⟨gd, p + 1, none⟩ = some (.int .i64 (wd : Nat)) := fun X hX => by have := hcell X hX 1 (by omega); rw [hwd]; exact this
  have c2 : ∀ X, Below w.heap.size w X → X.cell? ⟨gd, p + 2, none⟩ = some (.int .i64 (ea : Nat)) := fun X hX => by have := hcell X hX 2 (by omega); rw [hea]; exact this
  have c3 : ∀ X, Below w.heap.size w X → X.cell? ⟨gd, p + 3, none⟩ = some (.int .i64 (ea + 1 : Nat)) := fun X hX => by have := hcell X hX 3 (by omega); rw [hea]; exact this
  have c4 : ∀ X, Below w.heap.size w X → X.cell? ⟨gd, p + 4, none⟩ = some (.int .i64 (en : Nat)) := fun X hX => by have := hcell X hX 4 (by omega); rw [hen]; exact this
  obtain ⟨pa, hpa⟩ : ∃ pa, pa = slA a cap (tA b k + 1) := ⟨_, rfl⟩
  obtain ⟨pl, hpl⟩ : ∃ pl, pl = tE b k - (tA b k + 1) := ⟨_, rfl⟩
  obtain ⟨pc, hpc⟩ : ∃ pc, pc = cap - (tA b k + 1) := ⟨_, rfl⟩
  obtain ⟨pz, hpz⟩ : ∃ pz, pz = tP b k := ⟨_, rfl⟩
  have c5 : ∀ X, Below w.heap.size w X → X.cell? ⟨gd, p + 5, none⟩ = some (.slice pa pl pc) := fun X hX => by have := hcell X hX 5 (by omega); rw [hpa, hpl, hpc]; exact this
  have sp : ∀ X, Below w.heap.size w X → SlI .u8 X pa pl pc (nums pz) := fun X hX => by
    have := (hT.sl.keep hX).cut (tA b k + 1) pl (by rw [hpl, ← hea, ← hen]; omega)
    rw [show tA b k + 1 + pl - (tA b k + 1) = pl by omega] at this
    rw [hpa, hpc, hpz]
    unfold tP slA
    rw [← hpl]
    have e : ((nums b).drop (tA b k + 1)).take pl = nums ((b.drop (tA b k + 1)).take pl) := by simp [nums, List.map_drop, List.map_take]
    rw [← e]; exact this
  obtain ⟨er, her⟩ : ∃ er, er = opErr (nums pz) (nk : Nat) (wd : Nat) := ⟨_, rfl⟩
  have hop : ∀ X, Below w.heap.size w X → Calls Tryd.prog 36 #[.slice pa pl pc, .int .i64 (nk : Nat), .int .i64 (wd : Nat)] X fun e w' => e = .returned (.tuple #[opVal (nums pz) pa pc (nk : Nat) (wd : Nat), .int .i64 er]) ∧ Below X.heap.size X w' := fun X hX => by
    rw [her]
    exact popen_calls X pa pl pc (nums pz) (sp X hX) (fun i hi => by
      have := nums_u8 pz ((nums pz)[i]) (List.getElem_mem hi)
      have e : (nums pz).getD i 0 = (nums pz)[i] := by simp [hi]
      rw [e]; exact this) (nk : Nat) (wd : Nat)
  obtain ⟨ua, ul, uc, ui, uj, hov⟩ := opVal_agg8 (nums pz) pa pc (nk : Nat) (wd : Nat)
  rw [hov] at hop
  obtain ⟨sa, hsa⟩ : ∃ sa, sa = slA a cap (tE b k) := ⟨_, rfl⟩
  obtain ⟨sl, hsl⟩ : ∃ sl, sl = tA b (k + 1) - tE b k := ⟨_, rfl⟩
  obtain ⟨sc, hsc⟩ : ∃ sc, sc = cap - tE b k := ⟨_, rfl⟩
  have c6 : ∀ X, Below w.heap.size w X → X.cell? ⟨gd, p + 6, none⟩ = some (.slice sa sl sc) := fun X hX => by have := hcell X hX 6 (by omega); rw [hsa, hsl, hsc]; exact this
  have ss : ∀ X, Below w.heap.size w X → SlI .u8 X sa (tB b k).length sc (nums (tB b k)) := fun X hX => by
    have hle : tE b k ≤ tA b (k + 1) := tX_ge b k
    have := (hT.sl.keep hX).cut (tE b k) (tA b (k + 1) - tE b k) (by omega)
    rw [show tE b k + (tA b (k + 1) - tE b k) - tE b k = tA b (k + 1) - tE b k by omega] at this
    rw [hsa, hsc]
    unfold slA
    have e : ((nums b).drop (tE b k)).take (tA b (k + 1) - tE b k) = nums (tB b k) := by unfold tB; simp [nums, List.map_drop, List.map_take]
    have e2 : (tB b k).length = tA b (k + 1) - tE b k := by unfold tB; rw [List.length_take, List.length_drop, ← hnx, ← hen]; omega
    rw [← e, e2]; exact this
  have hsl2 : sl = (tB b k).length := by rw [hsl]; unfold tB; rw [List.length_take, List.length_drop, ← hnx, ← hen]; omega
  have c7n : tV b k = false → ∀ X, Below w.heap.size w X → X.cell? ⟨gd, p + 7, none⟩ = some (.pointer none) := fun hv X hX => by
    have := hcell X hX 7 (by omega)
    rw [(hT.vec k hk).2 hv] at this
    exact this
  have hvk : tV b k = true → ∃ gv, Hid (∀ X, Below w.heap.size w X → X.cell? ⟨gd, p + 7, none⟩ = some (.pointer (some ⟨gv, 0, none⟩))) ∧
      Hid (∀ X, Below w.heap.size w X → Calls Tryd.prog 39 #[.slice sa sl sc] X fun e w' => ∃ pp v x y, e = .returned (.tuple #[.pointer pp, v]) ∧ OpenR (tB b k) x y ∧ EV w' v (x : Nat) (y : Nat) ∧ Below X.heap.size X w') ∧
      Hid (∀ X, Below w.heap.size w X → ∀ j : Nat, j ≤ 2097152 → Calls Tryd.prog 40 #[.pointer (some ⟨gv, 0, none⟩), .int .i64 (j : Nat)] X fun e w' => e = .returned (.bool (tBit b k j)) ∧ ∃ q, w' = X.drewN q) := fun hv => by
    obtain ⟨gv, h1, h2⟩ := (hT.vec k hk).1 hv
    refine ⟨gv, Lib.hid (fun X hX => ?_), Lib.hid (fun X hX => ?_), Lib.hid (fun X hX j hj => ?_)⟩
    · have := hcell X hX 7 (by omega)
      rw [h1] at this
      exact this
    · rw [hsl2]
      exact (open_any X sa sc (tB b k) (ss X hX)).mono fun e w' ⟨pp, v, x, y, g1, g2, g3, g4, _⟩ => ⟨pp, v, x, y, g1, g2, g3, g4⟩
    · refine (vbit_calls (h2.below8 hX) (j : Nat) (by omega)).mono fun e w' ⟨g1, g2⟩ => ⟨?_, g2⟩
      rw [g1]
      unfold tBit
      rw [decide_eq_true (show (0 : Int) ≤ (j : Nat) by omega), Bool.true_and, Int.toNat_natCast]
      simp only [Int.ofNat_lt]
  have SZ := Lib.hid Tryd.sizePk8
  have C6 := Lib.hid c6
  have C7n := Lib.hid c7n
  have HVK := Lib.hid hvk
  have C0 := Lib.hid c0
  have C1 := Lib.hid c1
  have C2 := Lib.hid c2
  have C3 := Lib.hid c3
  have C4 := Lib.hid c4
  have C5 := Lib.hid c5
  have SP := Lib.hid sp
  have HOP := Lib.hid hop
  have HER := Lib.hid her
  have HNK := Lib.hid hnk
  have HWD := Lib.hid hwd
  have HEA := Lib.hid hea
  have HEN := Lib.hid hen
  have HNX := Lib.hid hnx
  have HPZ := Lib.hid hpz
  have HT := Lib.hid hT
  have HP := Lib.hid hp
  have HC := Lib.hid hcell
  clear hvk c7n hsl2 ss c6 hsa hsl hsc
  clear h00 hlv hcn hlo hcnk hlok c0 c1 c2 c3 c4 c5 sp hop her hnk hwd hea hen hnx hpz hpa hpl hpc hT hp hcell hov
  go_enter Tryd.func22, Tryd.ntmps22
  go_upto_region 1 with fail
  go_cut [6] from 15 to 30 (fun s6 wx => s6 = .int .i64 er ∧ Below w.heap.size w wx)
  case first =>
    refine wh_startN (S := fun w' => Below w.heap.size w w') 19 rfl (by kernel_rfl) ?_
    have bV : Below w.heap.size w w.drew := below_drewN (Below.refl _ w) 1
    have zV : w.drew.heap.size = w.heap.size := rfl
    generalize w.drew = V at bV zV ⊢
    refine wh_takeD 0 16 (.pointer (some ⟨gd, p, none⟩)) rfl rfl rfl (by kernel_rfl) (by kernel_rfl) (by kernel_rfl) (fun _ _ _ _ h => h) bV (fun w' h => by simp [go_sem]) ?_
    refine wh_takeD 1 17 (.pointer (some ⟨gd, p, none⟩)) rfl rfl rfl (by kernel_rfl) (by kernel_rfl) (by kernel_rfl) (fun _ _ _ _ h => h) bV (fun w' h => by simp [go_sem]) ?_
    refine wh_takeD 2 18 (.pointer (some ⟨gd, p + 5, none⟩)) rfl rfl rfl (by kernel_rfl) (by kernel_rfl) (by kernel_rfl) (fun _ _ _ _ h => h) bV (fun w' h => by simp [go_sem]) ?_
    refine wh_takeD 3 19 (.slice pa pl pc) rfl rfl rfl (by kernel_rfl) (by kernel_rfl) (by kernel_rfl) (fun _ _ _ _ h => h) bV (fun w' h => by have hc := C5.out w' h; simp [go_sem, hc]) ?_
    refine wh_takeD 4 20 (.pointer (some ⟨gd, p, none⟩)) rfl rfl rfl (by kernel_rfl) (by kernel_rfl) (by kernel_rfl) (fun _ _ _ _ h => h) bV (fun w' h => by simp [go_sem]) ?_
    refine wh_takeD 5 21 (.pointer (some ⟨gd, p, none⟩)) rfl rfl rfl (by kernel_rfl) (by kernel_rfl) (by kernel_rfl) (fun _ _ _ _ h => h) bV (fun w' h => by simp [go_sem]) ?_
    refine wh_takeD 6 22 (.pointer (some ⟨gd, p, none⟩)) rfl rfl rfl (by kernel_rfl) (by kernel_rfl) (by kernel_rfl) (fun _ _ _ _ h => h) bV (fun w' h => by simp [go_sem]) ?_
    refine wh_takeD 7 23 (.int .i64 (nk : Nat)) rfl rfl rfl (by kernel_rfl) (by kernel_rfl) (by kernel_rfl) (fun _ _ _ _ h => h) bV (fun w' h => by have hc := C0.out w' h; simp [go_sem, hc]) ?_
    refine wh_takeD 8 24 (.pointer (some ⟨gd, p, none⟩)) rfl rfl rfl (by kernel_rfl) (by kernel_rfl) (by kernel_rfl) (fun _ _ _ _ h => h) bV (fun w' h => by simp [go_sem]) ?_
    refine wh_takeD 9 25 (.pointer (some ⟨gd, p, none⟩)) rfl rfl rfl (by kernel_rfl) (by kernel_rfl) (by kernel_rfl) (fun _ _ _ _ h => h) bV (fun w' h => by simp [go_sem]) ?_
    refine wh_takeD 10 26 (.pointer (some ⟨gd, p + 1, none⟩)) rfl rfl rfl (by kernel_rfl) (by kernel_rfl) (by kernel_rfl) (fun _ _ _ _ h => h) bV (fun w' h => by simp [go_sem]) ?_
    refine wh_takeD 11 27 (.int .i64 (wd : Nat)) rfl rfl rfl (by kernel_rfl) (by kernel_rfl) (by kernel_rfl) (fun _ _ _ _ h => h) bV (fun w' h => by have hc := C1.out w' h; simp [go_sem, hc]) ?_
    refine wh_two8 12 16 (by kernel_rfl) ?_ ?_
    · refine wo_callD 12 28 (.tuple #[.agg #[.slice ua ul uc, .int .i64 ui, .int .i64 uj], .int .i64 er]) (fun w' => Below V.heap.size V w') rfl rfl rfl (by simp [go_sem]) (HOP.out V bV) ?_
      intro w1 hb1
      have b1 := bV.trans (hb1.mono (by omega))
      have z1 := b1.size
      refine ⟨b1, ?_⟩
      refine wh_takeD 13 15 (.tuple #[.agg #[.slice ua ul uc, .int .i64 ui, .int .i64 uj], .int .i64 er]) rfl rfl rfl (by kernel_rfl) (by kernel_rfl) (by kernel_rfl) (fun _ _ _ _ h => h) b1 (fun w' h => by simp [go_sem]) ?_
      refine wh_takeD 14 29 (.agg #[.slice ua ul uc, .int .i64 ui, .int .i64 uj]) rfl rfl rfl (by kernel_rfl) (by kernel_rfl) (by kernel_rfl) (fun _ _ _ _ h => h) b1 (fun w' h => by simp [go_sem]) ?_
      refine wh_takeD 15 30 (.int .i64 er) rfl rfl rfl (by kernel_rfl) (by kernel_rfl) (by kernel_rfl) (fun _ _ _ _ h => h) b1 (fun w' h => by simp [go_sem]) ?_
      have b2 : Below w.heap.size w (w1.alloc (.cells #[.slice none 0 0, .int .i64 0, .int .i64 0] 104)) := b1.alloc z1 _
      refine wh_stepD 16 5 (.pointer (some ⟨w1.heap.size, 0, none⟩)) (w' := w1.alloc (.cells #[.slice none 0 0, .int .i64 0, .int .i64 0] 104)) rfl rfl rfl (by kernel_rfl) (by simp [go_sem]) b2 ?_
      have b3 : Below w.heap.size w ((w1.alloc (.cells #[.slice none 0 0, .int .i64 0, .int .i64 0] 104)).setRow w1.heap.size #[.slice ua ul uc, .int .i64 ui, .int .i64 uj]) := below_setRow b2 z1 _
      refine wh_skipD 17 (w' := (w1.alloc (.cells #[.slice none 0 0, .int .i64 0, .int .i64 0] 104)).setRow w1.heap.size #[.slice ua ul uc, .int .i64 ui, .int .i64 uj]) rfl rfl rfl (by kernel_rfl)
        (exec_store_row 104 (.tmp 5) (.tmp 29) rfl w1.heap.size #[.slice ua ul uc, .int .i64 ui, .int .i64 uj] (by simp [go_sem]) (by simp [go_sem]) _ _ (heap_alloc_new _ _) SZ.out rfl (pk_one _ _ _ _ _)) b3 ?_
      refine wh_stepD 18 6 (.int .i64 er) (w' := (w1.alloc (.cells #[.slice none 0 0, .int .i64 0, .int .i64 0] 104)).setRow w1.heap.size #[.slice ua ul uc, .int .i64 ui, .int .i64 uj]) rfl rfl rfl (by kernel_rfl) (by simp [go_sem]) b3 ?_
      refine wpAnyH_done (by kernel_rfl) ?_ 0
      generalize (w1.alloc (.cells #[.slice none 0 0, .int .i64 0, .int .i64 0] 104)).setRow w1.heap.size #[.slice ua ul uc, .int .i64 ui, .int .i64 uj] = w9 at b3 ⊢
      have B9 := Lib.hid b3
      clear b3 b2 b1 bV
      simp only [List.setIfInBounds_toArray, List.set_cons_succ, List.set_cons_zero]
      go_wp2_with fail
      go_meet
      exact ⟨rfl, B9.out⟩
    · have b0 : Below w.heap.size w (V.alloc (.cells #[.slice none 0 0, .int .i64 0, .int .i64 0] 104)) := bV.alloc (by omega) _
      refine wo_stepD 16 5 (.pointer (some ⟨V.heap.size, 0, none⟩)) (w' := V.alloc (.cells #[.slice none 0 0, .int .i64 0, .int .i64 0] 104)) rfl rfl rfl (by simp [go_sem]) ⟨b0, ?_⟩
      have hg := heap_alloc_new V (.cells #[.slice none 0 0, .int .i64 0, .int .i64 0] 104)
      have hgl : V.heap.size < (V.alloc (.cells #[.slice none 0 0, .int .i64 0, .int .i64 0] 104)).heap.size := by simp
      generalize V.alloc (.cells #[.slice none 0 0, .int .i64 0, .int .i64 0] 104) = V2 at b0 hg hgl ⊢
      have z2 := b0.size
      refine wh_callD 12 28 (.tuple #[.agg #[.slice ua ul uc, .int .i64 ui, .int .i64 uj], .int .i64 er]) (fun w' => Below V2.heap.size V2 w') rfl rfl rfl (by kernel_rfl) (by simp [go_sem]) (HOP.out V2 b0) (fun w' h => b0.trans (h.mono z2)) ?_
      intro w1 hb1
      have b1 := b0.trans (hb1.mono z2)
      have hg1 := (hb1.block V.heap.size hgl).trans hg
      refine wh_takeD 13 15 (.tuple #[.agg #[.slice ua ul uc, .int .i64 ui, .int .i64 uj], .int .i64 er]) rfl rfl rfl (by kernel_rfl) (by kernel_rfl) (by kernel_rfl) (fun _ _ _ _ h => h) b1 (fun w' h => by simp [go_sem]) ?_
      refine wh_takeD 14 29 (.agg #[.slice ua ul uc, .int .i64 ui, .int .i64 uj]) rfl rfl rfl (by kernel_rfl) (by kernel_rfl) (by kernel_rfl) (fun _ _ _ _ h => h) b1 (fun w' h => by simp [go_sem]) ?_
      refine wh_takeD 15 30 (.int .i64 er) rfl rfl rfl (by kernel_rfl) (by kernel_rfl) (by kernel_rfl) (fun _ _ _ _ h => h) b1 (fun w' h => by simp [go_sem]) ?_
      have b3 : Below w.heap.size w (w1.setRow V.heap.size #[.slice ua ul uc, .int .i64 ui, .int .i64 uj]) := below_setRow b1 (by omega) _
      refine wh_skipD 17 (w' := w1.setRow V.heap.size #[.slice ua ul uc, .int .i64 ui, .int .i64 uj]) rfl rfl rfl (by kernel_rfl)
        (exec_store_row 104 (.tmp 5) (.tmp 29) rfl V.heap.size #[.slice ua ul uc, .int .i64 ui, .int .i64 uj] (by simp [go_sem]) (by simp [go_sem]) _ _ hg1 SZ.out rfl (pk_one _ _ _ _ _)) b3 ?_
      refine wh_stepD 18 6 (.int .i64 er) (w' := w1.setRow V.heap.size #[.slice ua ul uc, .int .i64 ui, .int .i64 uj]) rfl rfl rfl (by kernel_rfl) (by simp [go_sem]) b3 ?_
      refine wpAnyH_done (by kernel_rfl) ?_ 0
      generalize w1.setRow V.heap.size #[.slice ua ul uc, .int .i64 ui, .int .i64 uj] = w9 at b3 ⊢
      have B9 := Lib.hid b3
      clear b3 b1 bV b0 hg hg1
      simp only [List.setIfInBounds_toArray, List.set_cons_succ, List.set_cons_zero]
      go_wp2_with fail
      go_meet
      exact ⟨rfl, B9.out⟩
  case rest =>
    obtain ⟨rfl, hb1⟩ := hcut
    rename World => w1
    have HB1 := Lib.hid hb1
    have hz1 := hb1.size
    by_cases he : er = 0
    rotate_left
    · have e1 : (er != 0) = true := by simp [he]
      have hlk : ∀ x y, lkE b k x y = (er, en - 1) := fun x y => by
        unfold lkE
        rw [← HPZ.out, ← HNK.out, ← HWD.out, ← HER.out, if_pos he, ← HEN.out]
      obtain ⟨e2, he2⟩ : ∃ e2 : Nat, e2 = en - 1 := ⟨_, rfl⟩
      have he2i : (en : Int) - 1 = (e2 : Int) := by omega
      have c4 := C4.out w1 HB1.out
      have HLK := Lib.hid hlk
      have HE := Lib.hid he
      have HE2 := Lib.hid he2
      clear he hlk hb1 he2
      go_wp2_with (go_at_call 14; (with_reducible refine (twrong_calls _ _ _).mono ?_); rintro e w9 ⟨b9, rfl, hb9, hr9, hbe9⟩; (have HR9 := Lib.hid hr9); (have HBE9 := Lib.hid hbe9); clear hr9 hbe9)
      go_ret
      exact LookR.mk (x := 0) (y := 0) (er := (er, en - 1)) HB1.out HBE9.out (fun h => absurd (by rw [HER.out, HNK.out, HWD.out, HPZ.out]; exact h.2.2.1) HE.out) (HLK.out 0 0) HE.out (by rw [← HE2.out]; exact HR9.out)
    · have e1 : (er != 0) = false := by simp [he]
      have HE := Lib.hid he
      have c0 := C0.out w1 HB1.out
      clear he hb1
      go_wp2_with fail
      go_loopw [7, 44] (fun mv iv wr => ∃ (i : Nat), iv = .int .i64 (i : Nat) ∧ mv = .int .i64 (mxN b k i : Nat) ∧ i ≤ nk ∧ Below w.heap.size w wr) (fun _ iv _ => nk - (intOf iv).toNat)
      case atStart => exact ⟨0, rfl, rfl, Nat.zero_le _, HB1.out⟩
      case round =>
        rename World => wr
        obtain ⟨i, rfl, rfl, hi, hbr⟩ := hrel
        have HBR := Lib.hid hbr
        have hzr := hbr.size
        clear hbr
        by_cases hin : i < nk
        · have hnum := tnumber_calls wr gd p wd pa pl pc pz (C1.out wr HBR.out) (C5.out wr HBR.out) (SP.out wr HBR.out) hwd2 i (by omega)
          have hmx : mxN b k (i + 1) = max (mxN b k i) (numF pz wd i) := by simp only [mxN]; unfold tM; rw [← HPZ.out, ← HWD.out]
          obtain ⟨nv, hnv⟩ : ∃ nv, nv = numF pz wd i := ⟨_, rfl⟩
          obtain ⟨mv, hmv⟩ : ∃ mv, mv = mxN b k i := ⟨_, rfl⟩
          rw [← hnv] at hnum hmx
          rw [← hmv] at hmx ⊢
          have hmxi : max (mv : Int) (nv : Int) = ((mxN b k (i + 1) : Nat) : Int) := by rw [hmx]; omega
          obtain ⟨m2, hm2⟩ : ∃ m2, m2 = mxN b k (i + 1) := ⟨_, rfl⟩
          rw [← hm2] at hmxi
          have HM2 := Lib.hid hm2
          have HNUM := Lib.hid hnum
          clear hnum hmx hnv hmv hm2
          go_wp2_with (go_at_call 37; refine HNUM.out.mono ?_; rintro e w2 ⟨rfl, m, hm⟩; (have HB2 := Lib.hid (show Below w.heap.size w w2 by rw [hm]; exact below_drewN HBR.out m)); clear hm)
          exact ⟨⟨i + 1, by go_num, by rw [HM2.out], by omega, HB2.out⟩, by simp [intOf]; omega⟩
        · obtain rfl : i = nk := by omega
          have hmlt := mxN_lt b k (by rw [← HWD.out]; exact hwd2) i
          obtain ⟨mv, hmv⟩ : ∃ mv, mv = mxN b k i := ⟨_, rfl⟩
          rw [← hmv] at hmlt ⊢
          obtain ⟨wb, hwb⟩ : ∃ wb, wb = bw (mv : Nat) := ⟨_, rfl⟩
          have hwid : ∀ q, Calls Tryd.prog 38 #[.int .u64 (mv : Nat)] (wr.drewN q) fun e w' => e = .returned (.int .i64 wb) ∧ w' = wr.drewN q := fun q => (width_calls (mv : Nat) _ (by omega) (by omega)).mono fun _ _ ⟨g1, g2⟩ => ⟨by rw [hwb]; exact g1, g2.symm⟩
          have HWID := Lib.hid hwid
          have HWB := Lib.hid hwb
          have HMV := Lib.hid hmv
          have c1 := C1.out wr HBR.out
          have hu64 : IntKind.u64.wrap (mv : Int) = (mv : Int) := by rw [IntKind.wrap_u64]; omega
          clear hwid hwb hmv
          by_cases hww : wb = (wd : Nat)
          rotate_left
          · have e2 : (wb != (wd : Int)) = true := by simp [hww]
            have hlk : ∀ x y, lkE b k x y = (14, ea) := fun x y => by
              unfold lkE
              rw [← HPZ.out, ← HNK.out, ← HWD.out, ← HER.out, if_neg (by simp [HE.out]), ← HMV.out, ← HWB.out, if_pos hww, ← HEA.out]
            have HLK := Lib.hid hlk
            have HWW := Lib.hid hww
            clear hlk hww
            go_wp2_with fail
            go_quiet ((go_at_call 38; with_reducible exact Calls.quiet_of_same (HWID.out _)))
            have c2 := C2.out _ (below_drewN HBR.out nq)
            have hzq := (below_drewN HBR.out nq).size
            go_wp2_with (go_at_call 14; (with_reducible refine (twrong_calls _ _ _).mono ?_); rintro e w9 ⟨b9, rfl, hb9, hr9, hbe9⟩; (have HR9 := Lib.hid hr9); (have HBE9 := Lib.hid hbe9); clear hr9 hbe9)
            go_ret
            exact LookR.mk (x := 0) (y := 0) (er := (14, ea)) (below_drewN HBR.out nq) HBE9.out (fun h => absurd (by rw [HWB.out, HMV.out, HNK.out, HWD.out]; exact h.2.2.2) HWW.out) (HLK.out 0 0) (by simp) HR9.out
          · have e2 : (wb != (wd : Int)) = false := by simp [hww]
            have HWW := Lib.hid hww
            clear hww
            go_wp2_with fail
            go_quiet ((go_at_call 38; with_reducible exact Calls.quiet_of_same (HWID.out _)))
            have hb3 := below_drewN HBR.out nq
            generalize wr.drewN nq = w3 at hb3 ⊢
            have HB3 := Lib.hid hb3
            have hz3 := hb3.size
            clear hb3 c1 HBR hzr
            go_upto_if 67 with fail
            have hU : ∀ x y, lkE b k x y = if 0 < k ∧ (lkB b k x y).1 ≠ 0 then lkB b k x y else lnS b k i := fun x y => by
              unfold lkE
              rw [← HPZ.out, ← HNK.out, ← HWD.out, ← HER.out, if_neg (by simp [HE.out]), ← HMV.out, ← HWB.out, if_neg (by simp [HWW.out])]
            have HU := Lib.hid hU
            clear hU
            go_cut [] from 67 to 130 (fun wx => Below w.heap.size w wx ∧ ∃ x y, (lkU b k → OpenR (tB b k) x y) ∧ (0 < k → (lkB b k x y).1 = 0))
            case first =>
              by_cases hk0 : 0 < k
              rotate_left
              · have d1 : decide ((0 : Int) < (k : Int)) = false := decide_eq_false (by omega)
                go_wp2_with fail
                go_meet
                exact ⟨HB3.out, 0, 0, fun h => absurd h.1 hk0, fun h => absurd h hk0⟩
              · have d1 : decide ((0 : Int) < (k : Int)) = true := decide_eq_true (by omega)
                have c4 := C4.out w3 HB3.out
                cases hv : tV b k with
                | false =>
                  have c7 := C7n.out hv w3 HB3.out
                  have hB : ∀ x y, lkB b k x y = (180, en) := fun x y => by unfold lkB; rw [if_pos hv, HEN.out]
                  have HBB := Lib.hid hB
                  have HVV := Lib.hid hv
                  clear hB hv
                  go_wp2_with (go_at_call 14; (with_reducible refine (twrong_calls _ _ _).mono ?_); rintro e w9 ⟨b9, rfl, hb9, hr9, hbe9⟩; (have HR9 := Lib.hid hr9); (have HBE9 := Lib.hid hbe9); clear hr9 hbe9)
                  go_ret
                  exact LookR.mk (x := 0) (y := 0) (er := (180, en)) HB3.out HBE9.out (fun h => absurd (HVV.out.symm.trans h.2.1) (by simp)) (by rw [HU.out, HBB.out]; exact if_pos ⟨hk0, by simp⟩) (by simp) HR9.out
                | true =>
                  obtain ⟨gv, C7, HOB, HBIT⟩ := HVK.out hv
                  have c7 := C7.out w3 HB3.out
                  have c6 := C6.out w3 HB3.out
                  have HVV := Lib.hid hv
                  clear hv
                  go_upto_region 16 with (go_at_call 39; (with_reducible refine (HOB.out w3 HB3.out).mono ?_); rintro e w4 ⟨pp, v4, x, y, rfl, ho, hev, hb4⟩; (have HO := Lib.hid ho); (have HEV := Lib.hid hev); (have HB4 := Lib.hid hb4); clear ho hev hb4)
                  have hb34 := HB3.out.trans (HB4.out.mono hz3)
                  have HB34 := Lib.hid hb34
                  have hz4 := hb34.size
                  have c4' := C4.out w4 hb34
                  have c0' := C0.out w4 hb34
                  have c7' := C7.out w4 hb34
                  clear hb34 c4 c7 c6
                  by_cases hy : y = 0
                  · have hv4 : v4 = .nilIface := by have := HEV.out; rw [hy] at this; exact this.none
                    subst hv4
                    have HY := Lib.hid hy
                    clear hy
                    by_cases hi0 : 0 < i
                    rotate_left
                    · have d2 : decide ((0 : Int) < (i : Int)) = false := decide_eq_false (by omega)
                      have hB : (lkB b k x y).1 = 0 := by unfold lkB; rw [if_neg (by rw [HVV.out]; simp), if_neg (by rw [HY.out]; simp), if_neg (by rw [← HNK.out]; omega)]
                      have HBB := Lib.hid hB
                      clear hB
                      go_wp2_with fail
                      go_quiet (fail)
                      have hbq := below_drewN HB34.out nq
                      generalize w4.drewN nq = w5 at hbq ⊢
                      have HB5 := Lib.hid hbq
                      clear hbq
                      go_wp2_with fail
                      go_meet
                      exact ⟨HB5.out, x, y, fun _ => HO.out, fun _ => HBB.out⟩
                    · have d2 : decide ((0 : Int) < (i : Int)) = true := decide_eq_true (by omega)
                      obtain ⟨j, hj⟩ : ∃ j : Nat, j = i - 1 := ⟨_, rfl⟩
                      have hji : (i : Int) - 1 = (j : Nat) := by omega
                      have hbit := fun q => HBIT.out (w4.drewN q) (below_drewN HB34.out q) j (by omega)
                      have hB : ∀ bt, tBit b k j = bt → lkB b k x y = if bt = false then (180, en) else (0, 0) := fun bt hbt => by
                        unfold lkB
                        rw [if_neg (by rw [HVV.out]; simp), if_neg (by rw [HY.out]; simp), ← HNK.out, ← hj, hbt, ← HEN.out]
                        cases bt <;> simp [hi0]
                      have hB2 := hB _ rfl
                      generalize tBit b k j = bt at hbit hB2
                      have HBB := Lib.hid hB2
                      have HBI := Lib.hid hbit
                      clear hB hB2 hbit hj
                      cases bt with
                      | false =>
                        go_wp2_with fail
                        go_quiet ((go_at_call 40; (with_reducible exact quiet_dr (HBI.out _))))
                        have hbq := below_drewN HB34.out nq
                        generalize w4.drewN nq = w5 at hbq ⊢
                        have HB5 := Lib.hid hbq
                        have c4 := C4.out w5 hbq
                        clear hbq
                        go_wp2_with (go_at_call 14; (with_reducible refine (twrong_calls _ _ _).mono ?_); rintro e w9 ⟨b9, rfl, hb9, hr9, hbe9⟩; (have HR9 := Lib.hid hr9); (have HBE9 := Lib.hid hbe9); clear hr9 hbe9)
                        go_ret
                        exact LookR.mk (x := x) (y := y) (er := (180, en)) HB5.out HBE9.out (fun _ => HO.out) (by rw [HU.out, HBB.out]; exact if_pos ⟨hk0, by simp⟩) (by simp) HR9.out
                      | true =>
                        go_wp2_with fail
                        go_quiet ((go_at_call 40; (with_reducible exact quiet_dr (HBI.out _))))
                        have hbq := below_drewN HB34.out nq
                        generalize w4.drewN nq = w5 at hbq ⊢
                        have HB5 := Lib.hid hbq
                        clear hbq
                        go_wp2_with fail
                        go_meet
                        exact ⟨HB5.out, x, y, fun _ => HO.out, fun _ => by rw [HBB.out]; rfl⟩
                  · obtain ⟨b4, hy4, rfl, hrow4⟩ : ∃ b4, ((y : Nat) : Int) ≠ 0 ∧ v4 = .iface 61 (.pointer (some ⟨b4, 0, none⟩)) ∧ w4.heap[b4]? = some (.cells #[.int .i64 (x : Nat), .iface 54 (.int .i64 (y : Nat))] 65 (0, 0)) := by
                      rcases HEV.out with ⟨_, _, h⟩ | h
                      · exact absurd (by omega) hy
                      · exact h
                    have f0 : w4.cell? ⟨b4, 0, none⟩ = _ := cell_of_row w4 b4 0 _ _ _ hrow4
                    have f1 : w4.cell? ⟨b4, 1, none⟩ = _ := cell_of_row w4 b4 1 _ _ _ hrow4
                    simp only [List.getElem?_toArray, List.getElem?_cons_zero, List.getElem?_cons_succ] at f0 f1
                    obtain ⟨ex, hex0⟩ : ∃ ex, ex = en + x := ⟨_, rfl⟩
                    have hB : lkB b k x y = ((((y : Nat) : Int), ex) : Int × Nat) := by unfold lkB; rw [if_neg (by rw [HVV.out]; simp), if_pos hy, ← HEN.out, ← hex0]
                    have HBB := Lib.hid hB
                    have HY4 := Lib.hid hy4
                    have HROW := Lib.hid hrow4
                    have hex : (en : Int) + (x : Nat) = (ex : Int) := by omega
                    have hxl : ex ≤ 1152921504606846976 := by have := open_le HO.out; have h2 : (tB b k).length ≤ b.length := (by unfold tB; rw [List.length_take, List.length_drop]; omega); omega
                    clear hB hy4 hrow4 hy hex0
                    have ta1 : (Instr.typeAssert (.iface 61 (.pointer (some ⟨b4, 0, none⟩))) 26 61 true).run Tryd.prog w4 = .ok (.tuple #[.pointer (some ⟨b4, 0, none⟩), .bool true]) w4 := by kernel_rfl
                    have ta2 : ∀ W, (Instr.typeAssert (.iface 54 (.int .i64 (y : Nat))) 26 54 false).run Tryd.prog W = .ok (.int .i64 (y : Nat)) W := fun W => by kernel_rfl
                    go_upto_region 18 with fail
                    refine wp_region_quiet_tail (fun w' => ∃ n, w' = World.drewN _ n) 14 (by kernel_rfl) (by kernel_rfl) ⟨1, rfl⟩ ?_
                    simp only [List.take_succ_cons, List.take_zero, List.drop_succ_cons, List.drop_zero]
                    repeat (go_big_quiet_step (fail))
                    refine wpQuiet_nil ?_
                    rintro _ ⟨n1, rfl⟩
                    have hb5 := below_drewN HB34.out n1
                    generalize w4.drewN n1 = w5 at hb5 ⊢
                    have HB5 := Lib.hid hb5
                    clear hb5
                    go_wp2_with (go_at_call 14; (with_reducible refine (twrong_calls _ _ _).mono ?_); rintro e w9 ⟨b9, rfl, hb9, hr9, hbe9⟩; (have HR9 := Lib.hid hr9); (have HBE9 := Lib.hid hbe9); clear hr9 hbe9)
                    go_ret
                    exact LookR.mk (x := x) (y := y) (er := ((((y : Nat) : Int), ex) : Int × Nat)) HB5.out HBE9.out (fun _ => HO.out) (by rw [HU.out, HBB.out]; exact if_pos ⟨hk0, HY4.out⟩) HY4.out HR9.out
            case rest =>
              obtain ⟨hb4, x, y, hO, hL⟩ := hcut
              rename World => w4
              have HB4 := Lib.hid hb4
              have HO := Lib.hid hO
              have hU2 : lkE b k x y = lnS b k i := by rw [HU.out]; exact if_neg (fun h => h.2 (hL h.1))
              have hVV : 0 < k → tV b k = true := fun h => by
                cases hv : tV b k with
                | true => rfl
                | false => have := hL h; unfold lkB at this; rw [if_pos hv] at this; cases this
              have HU2 := Lib.hid hU2
              have HVV := Lib.hid hVV
              have c0 := C0.out w4 hb4
              clear hb4 hO hL hU2 hVV
              go_wp2_with fail
              go_loopw [135] (fun iv wr => ∃ (j : Nat), iv = .int .i64 (j : Nat) ∧ j ≤ i ∧ (lnS b k j).1 = 0 ∧ Below w.heap.size w wr) (fun iv _ => i - (intOf iv).toNat)
              case atStart => exact ⟨0, rfl, Nat.zero_le _, rfl, HB4.out⟩
              case round =>
                rename World => wr
                obtain ⟨j, rfl, hj, hz, hbr⟩ := hrel
                have HBR := Lib.hid hbr
                have HZ := Lib.hid hz
                have hzr := hbr.size
                have c3 := C3.out wr hbr
                clear hbr hz
                by_cases hji : j < i
                rotate_left
                · obtain rfl : j = i := by omega
                  go_wp2_with fail
                  go_ret
                  exact ⟨HBR.out, x, y, _, fun _ => HO.out (by assumption), rfl, .inl ⟨rfl, by rw [HU2.out, ln_zero HZ.out]; rfl, by rw [HU2.out, ln_zero HZ.out]⟩⟩
                · have hnum := tnumber_calls wr gd p wd pa pl pc pz (C1.out wr HBR.out) (C5.out wr HBR.out) (SP.out wr HBR.out) hwd2 j (by omega)
                  have htm : tM b k j = numF pz wd j := by unfold tM; rw [← HPZ.out, ← HWD.out]
                  obtain ⟨nv, hnv⟩ : ∃ nv, nv = tM b k j := ⟨_, rfl⟩
                  rw [← htm, ← hnv] at hnum
                  have HNUM := Lib.hid hnum
                  have HNV := Lib.hid hnv
                  have hok : ∀ X, Calls Tryd.prog 41 #[.int .i64 (k : Nat), .int .i64 (nv : Nat)] X fun e w' => e = .returned (.bool (okN k (nv : Nat))) ∧ w' = X := fun X => right_calls X k hk (nv : Nat)
                  have hstep : lnE b k j ≠ (0, 0) → (lnE b k j).1 ≠ 0 → lnS b k i = lnE b k j := fun _ h1 => by
                    have e1 : lnS b k (j + 1) = lnE b k j := by simp only [lnS]; rw [if_neg (by simp [HZ.out])]
                    rw [ln_stop b k (show j + 1 ≤ i by omega) (by rw [e1]; exact h1), e1]
                  have hgo : lnE b k j = (0, 0) → (lnS b k (j + 1)).1 = 0 := fun h1 => by simp only [lnS]; rw [if_neg (by simp [HZ.out]), h1]
                  have HST := Lib.hid hstep
                  have HGO := Lib.hid hgo
                  clear htm hnum hnv hstep hgo
                  cases hkn : okN k (nv : Nat) with
                  | false =>
                    rw [hkn] at hok
                    have HOK := Lib.hid hok
                    have hln : lnE b k j = (180, ea + 1) := by unfold lnE; rw [← HNV.out, if_pos hkn, ← HEA.out]
                    have HLN := Lib.hid hln
                    clear hok hkn hln
                    go_upto_region 25 with (go_at_call 37; refine HNUM.out.mono ?_; rintro e w5 ⟨rfl, m, hm⟩; (have HB5 := Lib.hid (show Below w.heap.size w w5 by rw [hm]; exact below_drewN HBR.out m)); clear hm)
                    have c3 := C3.out w5 HB5.out
                    have hz5 := HB5.out.size
                    go_wp2_with (first
                      | (go_at_call 41; (with_reducible refine (HOK.out _).mono ?_); rintro e w6 ⟨rfl, rfl⟩)
                      | (go_at_call 14; (with_reducible refine (twrong_calls _ _ _).mono ?_); rintro e w9 ⟨b9, rfl, hb9, hr9, hbe9⟩; (have HR9 := Lib.hid hr9); (have HBE9 := Lib.hid hbe9); clear hr9 hbe9))
                    go_ret
                    exact LookR.mk (x := x) (y := y) (er := (180, ea + 1)) HB5.out HBE9.out HO.out (by rw [HU2.out, HST.out (by rw [HLN.out]; simp) (by rw [HLN.out]; simp), HLN.out]) (by simp) HR9.out
                  | true =>
                    rw [hkn] at hok
                    have HOK := Lib.hid hok
                    have HKN := Lib.hid hkn
                    clear hok hkn
                    go_upto_region 25 with (go_at_call 37; refine HNUM.out.mono ?_; rintro e w5 ⟨rfl, m, hm⟩; (have HB5 := Lib.hid (show Below w.heap.size w w5 by rw [hm]; exact below_drewN HBR.out m)); clear hm)
                    clear c3
                    have c3 := C3.out w5 HB5.out
                    have hz5 := HB5.out.size
                    go_upto_region 27 with (go_at_call 41; (with_reducible refine (HOK.out _).mono ?_); rintro e w6 ⟨rfl, rfl⟩)
                    clear c3
                    by_cases hj0 : 0 < j
                    rotate_left
                    · have d1 : decide ((0 : Int) < (j : Int)) = false := decide_eq_false (by omega)
                      have hl0 : lnE b k j = (0, 0) := by unfold lnE; rw [← HNV.out, if_neg (by rw [HKN.out]; simp), if_neg (fun h => hj0 h.1)]
                      have HL0 := Lib.hid hl0
                      clear hl0
                      go_wp2_with fail
                      exact ⟨⟨j + 1, by go_num, by omega, HGO.out HL0.out, HB5.out⟩, by simp [intOf]; omega⟩
                    · have d1 : decide ((0 : Int) < (j : Int)) = true := decide_eq_true (by omega)
                      obtain ⟨jm, hjm0⟩ : ∃ jm, jm = j - 1 := ⟨_, rfl⟩
                      have hjm : (j : Int) - 1 = (jm : Nat) := by omega
                      obtain ⟨mv, hmv⟩ : ∃ mv, mv = tM b k (j - 1) := ⟨_, rfl⟩
                      have hnum2 := fun X (hX : Below w.heap.size w X) => tnumber_calls X gd p wd pa pl pc pz (C1.out _ hX) (C5.out _ hX) (SP.out _ hX) hwd2 jm (by omega)
                      have hmv2 : numF pz wd jm = mv := by rw [hmv, hjm0]; unfold tM; rw [← HPZ.out, ← HWD.out]
                      rw [hmv2] at hnum2
                      have HNUM2 := Lib.hid hnum2
                      have HMV := Lib.hid hmv
                      have HJM := Lib.hid hjm0
                      clear hnum2 hmv hmv2 hjm0
                      by_cases hk0 : k = 0
                      · have d3 : ((k : Int) == 0) = true := by simp [hk0]
                        have d4 : (k == 0) = true := by simp [hk0]
                        have HK0 := Lib.hid hk0
                        clear hk0
                        have HPR := Lib.hid (show k = 0 ∨ tBit b k (j - 1) = false from .inl HK0.out)
                        by_cases hle : nv ≤ mv
                        · have hln : lnE b k j = (160, ea + 1) := by unfold lnE; rw [← HNV.out, if_neg (by rw [HKN.out]; simp), if_pos ⟨hj0, HPR.out, by rw [← HMV.out]; exact hle⟩, ← HEA.out]
                          have HLN := Lib.hid hln
                          have dl : decide ((nv : Int) ≤ (mv : Int)) = true := decide_eq_true (by omega)
                          have dl2 : decide (nv ≤ mv) = true := decide_eq_true hle
                          clear hln
                          go_wp2_with (first | (go_at_call 37; (with_reducible refine (HNUM2.out _ HB5.out).mono ?_); rintro e w7 ⟨rfl, m2, hm2⟩; (have HB7 := Lib.hid (show Below w.heap.size w w7 by rw [hm2]; exact below_drewN HB5.out m2)); clear hm2; (have c3 := C3.out w7 HB7.out); (have hz7 := HB7.out.size)) | (go_at_call 14; (with_reducible refine (twrong_calls _ _ _).mono ?_); rintro e w9 ⟨b9, rfl, hb9, hr9, hbe9⟩; (have HR9 := Lib.hid hr9); (have HBE9 := Lib.hid hbe9); clear hr9 hbe9))
                          go_ret
                          exact LookR.mk (x := x) (y := y) (er := (160, ea + 1)) HB7.out HBE9.out HO.out (by rw [HU2.out, HST.out (by rw [HLN.out]; simp) (by rw [HLN.out]; simp), HLN.out]) (by simp) HR9.out
                        · have hl0 : lnE b k j = (0, 0) := by unfold lnE; rw [← HNV.out, if_neg (by rw [HKN.out]; simp), if_neg (fun h => hle (by rw [HMV.out]; exact h.2.2))]
                          have HL0 := Lib.hid hl0
                          have dl : decide ((nv : Int) ≤ (mv : Int)) = false := decide_eq_false (by omega)
                          have dl2 : decide (nv ≤ mv) = false := decide_eq_false hle
                          clear hl0
                          go_wp2_with (first | (go_at_call 37; (with_reducible refine (HNUM2.out _ HB5.out).mono ?_); rintro e w7 ⟨rfl, m2, hm2⟩; (have HB7 := Lib.hid (show Below w.heap.size w w7 by rw [hm2]; exact below_drewN HB5.out m2)); clear hm2; (have c3 := C3.out w7 HB7.out); (have hz7 := HB7.out.size)))
                          exact ⟨⟨j + 1, by go_num, by omega, HGO.out HL0.out, HB7.out⟩, by simp [intOf]; omega⟩
                      · have d3 : ((k : Int) == 0) = false := by simp [hk0]
                        have d4 : (k == 0) = false := by simp [hk0]
                        obtain ⟨gv, C7, HOB, HBIT⟩ := HVK.out (HVV.out (by omega))
                        have c7 := C7.out w6 HB5.out
                        have hbit := HBIT.out w6 HB5.out jm (by omega)
                        obtain ⟨bt, hbt⟩ : ∃ bt, bt = tBit b k jm := ⟨_, rfl⟩
                        rw [← hbt] at hbit
                        have HBI := Lib.hid hbit
                        have HBT := Lib.hid hbt
                        have HK0 := Lib.hid hk0
                        clear hbit hbt hk0
                        cases bt with
                        | true =>
                          have hl0 : lnE b k j = (0, 0) := by unfold lnE; rw [← HNV.out, if_neg (by rw [HKN.out]; simp), ← HJM.out, ← HBT.out, if_neg (fun h => h.2.1.elim HK0.out (by simp))]
                          have HL0 := Lib.hid hl0
                          clear hl0
                          go_wp2_with (go_at_call 40; (with_reducible refine HBI.out.mono ?_); rintro e w8 ⟨rfl, m1, hm1⟩; (have HB8 := Lib.hid (show Below w.heap.size w w8 by rw [hm1]; exact below_drewN HB5.out m1)); clear hm1)
                          exact ⟨⟨j + 1, by go_num, by omega, HGO.out HL0.out, HB8.out⟩, by simp [intOf]; omega⟩
                        | false =>
                          have HPR := Lib.hid (show k = 0 ∨ tBit b k (j - 1) = false from .inr (by rw [← HJM.out]; exact HBT.out.symm))
                          by_cases hle : nv ≤ mv
                          · have hln : lnE b k j = (160, ea + 1) := by unfold lnE; rw [← HNV.out, if_neg (by rw [HKN.out]; simp), if_pos ⟨hj0, HPR.out, by rw [← HMV.out]; exact hle⟩, ← HEA.out]
                            have HLN := Lib.hid hln
                            have dl : decide ((nv : Int) ≤ (mv : Int)) = true := decide_eq_true (by omega)
                            have dl2 : decide (nv ≤ mv) = true := decide_eq_true hle
                            clear hln
                            go_wp2_with (first | (go_at_call 40; (with_reducible refine HBI.out.mono ?_); rintro e w8 ⟨rfl, m1, hm1⟩; (have HB8 := Lib.hid (show Below w.heap.size w w8 by rw [hm1]; exact below_drewN HB5.out m1)); clear hm1) | (go_at_call 37; (with_reducible refine (HNUM2.out _ HB8.out).mono ?_); rintro e w7 ⟨rfl, m2, hm2⟩; (have HB7 := Lib.hid (show Below w.heap.size w w7 by rw [hm2]; exact below_drewN HB8.out m2)); clear hm2; (have c3 := C3.out w7 HB7.out); (have hz7 := HB7.out.size)) | (go_at_call 14; (with_reducible refine (twrong_calls _ _ _).mono ?_); rintro e w9 ⟨b9, rfl, hb9, hr9, hbe9⟩; (have HR9 := Lib.hid hr9); (have HBE9 := Lib.hid hbe9); clear hr9 hbe9))
                            go_ret
                            exact LookR.mk (x := x) (y := y) (er := (160, ea + 1)) HB7.out HBE9.out HO.out (by rw [HU2.out, HST.out (by rw [HLN.out]; simp) (by rw [HLN.out]; simp), HLN.out]) (by simp) HR9.out
                          · have hl0 : lnE b k j = (0, 0) := by unfold lnE; rw [← HNV.out, if_neg (by rw [HKN.out]; simp), if_neg (fun h => hle (by rw [HMV.out]; exact h.2.2))]
                            have HL0 := Lib.hid hl0
                            have dl : decide ((nv : Int) ≤ (mv : Int)) = false := decide_eq_false (by omega)
                            have dl2 : decide (nv ≤ mv) = false := decide_eq_false hle
                            clear hl0
                            go_wp2_with (first | (go_at_call 40; (with_reducible refine HBI.out.mono ?_); rintro e w8 ⟨rfl, m1, hm1⟩; (have HB8 := Lib.hid (show Below w.heap.size w w8 by rw [hm1]; exact below_drewN HB5.out m1)); clear hm1) | (go_at_call 37; (with_reducible refine (HNUM2.out _ HB8.out).mono ?_); rintro e w7 ⟨rfl, m2, hm2⟩; (have HB7 := Lib.hid (show Below w.heap.size w w7 by rw [hm2]; exact below_drewN HB8.out m2)); clear hm2; (have c3 := C3.out w7 HB7.out); (have hz7 := HB7.out.size)))
                            exact ⟨⟨j + 1, by go_num, by omega, HGO.out HL0.out, HB7.out⟩, by simp [intOf]; omega⟩
end Go.Proofs.YtgajpekolamjbaaDoor
