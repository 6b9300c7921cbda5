/- TdH TreeOpens TreeOpensG, laid as one. -/
import Derived.Test.YtgajpekolamjbaaDoorTdL
import Derived.Test.YtgajpekolamjbaaDoorTdC
import Derived.Test.YtgajpekolamjbaaDoorTrQ
import Derived.Deep.MidRow
import Derived.Test.YtgajpekolamjbaaDoorTwB
import Derived.Test.YtgajpekolamjbaaDoorFault4
import Derived.Test.YtgajpekolamjbaaDoorQu
import Derived.Laws.StructEq
import Derived.Test.YtgajpekolamjbaaDoorOpen2
set_option linter.unusedVariables false
set_option linter.unusedSimpArgs false
/- The document's Open. -/
namespace Go.Tk
open Go Go.RowKit
theorem own_ne_ty {W : World} {base e size n : Nat} {v : Value} {xs : List Value} {g : Nat} {x : Array Value} {t : TypeId} (h : W.ownsRow base e size v n xs) (hg : W.heap[g]? = some (.cells x t (0, 0))) (hne : t ≠ e) : v.ownBlock ≠ some g := fun ho => by
  rcases h.2 with ⟨rfl, _⟩ | ⟨g', cap, cur, rfl, _, hgg, _⟩
  · simp [Value.ownBlock] at ho
  · obtain rfl : g' = g := by simpa [Value.ownBlock] using ho
    rw [hgg] at hg
    cases hg
    exact hne rfl
theorem own_kept {S : Nat → Prop} {W W' : World} {base e size n : Nat} {v : Value} {xs : List Value} (h : W.ownsRow base e size v n xs) (hk : Kept S W W') (hv : ∀ g, v.ownBlock = some g → ¬ S g) : W'.ownsRow base e size v n xs := by
  refine ⟨h.1, ?_⟩
  rcases h.2 with hn | ⟨g, cap, cur, rfl, hbg, hgg, rest⟩
  · exact .inl hn
  · exact .inr ⟨g, cap, cur, rfl, hbg, (hk.block g (Array.getElem?_eq_some_iff.1 hgg).1 (hv g rfl)).trans hgg, rest⟩
theorem wh_startB {P : Program} {S : World → Prop} {K : Act → World → Prop} {Q : Exit → Act → World → Prop} {id id2 : Nat} {l : List Oper} {a : Act} {w : World} (n : Nat) (hn : l.toArray.size = n) (hm : P.follows .mixedOrders = true)
    (h : wpAnyH P .any l.toArray (Exit.then K (fun _ _ _ => False)) S n (Array.replicate n false) a w.drew) : (Code.region id l.toArray true).wp P (Exit.inBlock id2 (Exit.then K Q)) a w :=
  Code.wp_mono (fun e a w he => by
    cases e with
    | normal => exact he
    | _ => exact absurd he (fun h => h)) (wh_start n hn hm h)
theorem own_fit {W : World} {base e n : Nat} {a : Option Addr} {c : Nat} {xs : List Value} (h : W.ownsRow base e 1 (.slice a n c) n xs) : n ≤ c ∧ c ≤ 9223372036854775807 ∧ ∀ i, i < n → ∃ g, a = some ⟨g, 0, none⟩ ∧ W.cell? ⟨g, i, none⟩ = xs[i]? := by
  rcases h.2 with ⟨hv, h0⟩ | ⟨g, cap, cur, hv, _, hgg, hnc, hcm, hsz, ht⟩
  · simp at hv
    obtain ⟨rfl, rfl, rfl⟩ := hv
    exact ⟨by omega, by omega, fun i hi => by omega⟩
  · simp at hv
    obtain ⟨rfl, rfl⟩ := hv
    refine ⟨hnc, by simpa [maxLen] using hcm, fun i hi => ⟨g, rfl, ?_⟩⟩
    rw [cell_of_row W g i cur e _ hgg, ← ht, List.getElem?_take, if_pos (by omega)]
    simp
end Go.Tk
namespace Go.Proofs.YtgajpekolamjbaaDoor
open Go Go.RowKit Go.Tk
/-- The four levels, as they lie in the array. -/
structure Lvs where
  na : Nat → Option Addr
  nc : Nat → Nat
  la : Nat → Option Addr
  ll : Nat → Nat
  lc : Nat → Nat
def Lvs.cell (b : List UInt8) (X : Lvs) (k i : Nat) : Value := if i / 2 < k then (if i % 2 = 0 then .slice (X.na (i / 2)) (tN b (i / 2)) (X.nc (i / 2)) else .slice (X.la (i / 2)) (X.ll (i / 2)) (X.lc (i / 2))) else .slice none 0 0
/-- A level's slices are the call's own. -/
structure LvW (w W : World) (b : List UInt8) (X : Lvs) (k : Nat) : Prop where
  num : W.ownsRow w.heap.size 76 1 (.slice (X.na k) (tN b k) (X.nc k)) (tN b k) ((nmT b k (tN b k)).map (Value.int .u64))
  lst : 0 < k → X.ll k = tN b k ∧ W.ownsRow w.heap.size 4 1 (.slice (X.la k) (tN b k) (X.lc k)) (tN b k) (((List.range (tN b k)).map (tBit b k)).map Value.bool)
theorem LvW.kept {S : Nat → Prop} {w W W' b X k} (h : LvW w W b X k) (hk : Kept S W W') (hS : ∀ g, S g → W.heap.size ≤ g ∨ ∃ x t, W.heap[g]? = some (.cells x t (0, 0)) ∧ t ≠ 76 ∧ t ≠ 4) : LvW w W' b X k := by
  refine ⟨own_kept h.num hk (fun g e hs => ?_), fun h0 => ⟨(h.lst h0).1, own_kept (h.lst h0).2 hk (fun g e hs => ?_)⟩⟩
  · rcases hS g hs with h1 | ⟨x, t, h1, h2, _⟩
    · have := (World.ownsRow.lt h.num g e).2; omega
    · exact own_ne_ty h.num h1 h2 e
  · rcases hS g hs with h1 | ⟨x, t, h1, _, h3⟩
    · have := (World.ownsRow.lt (h.lst h0).2 g e).2; omega
    · exact own_ne_ty (h.lst h0).2 h1 h3 e
theorem LvW.below {w W W' b X k} (h : LvW w W b X k) (hb : Below W.heap.size W W') : LvW w W' b X k := h.kept (Kept.none_of_below hb) (fun g hs => hs.elim)
/-- What the document's Open hands back. -/
def RdoR (w : World) (b : List UInt8) (e : Ending) (w' : World) : Prop :=
  ∃ (v : Value) (xs ys : Nat → Nat), opUQ b xs ys ∧ e = .returned (.tuple #[v, flT (opT b xs ys 4)]) ∧ Below w.heap.size w w'
/-- The first half of Open's walk: the head's box, the fault to be handed back, the levels. -/
structure OdS (w W : World) (g3 g4 g6 : Nat) (b : List UInt8) (cs : Nat → Value) (X : Lvs) (k : Nat) : Prop where
  r3 : W.heap[g3]? = some (.cells #[.int .i64 0, .int .i64 0] 33 (0, 0))
  r4 : RowC W g4 13 31 cs
  r6 : RowC W g6 8 72 (X.cell b k)
  bl : Below w.heap.size w W
  b3 : w.heap.size ≤ g3
  b6 : w.heap.size ≤ g6
  n36 : g3 ≠ g6
  n46 : g4 ≠ g6
  lv : ∀ j, j < k → LvW w W b X j
theorem OdS.below {w W W' g3 g4 g6 b cs X k} (h : OdS w W g3 g4 g6 b cs X k) (hb : Below W.heap.size W W') : OdS w W' g3 g4 g6 b cs X k :=
  ⟨(hb.block _ (lt_of_block h.r3)).trans h.r3, h.r4.below hb, h.r6.below hb, h.bl.trans (hb.mono h.bl.size), h.b3, h.b6, h.n36, h.n46, fun j hj => (h.lv j hj).below hb⟩
def updV {α : Type} (f : Nat → α) (k : Nat) (x : α) (i : Nat) : α := if i = k then x else f i
def Lvs.upd (X : Lvs) (k : Nat) (na : Option Addr) (nc : Nat) (la : Option Addr) (ll lc : Nat) : Lvs := ⟨updV X.na k na, updV X.nc k nc, updV X.la k la, updV X.ll k ll, updV X.lc k lc⟩
theorem upd_cell (b : List UInt8) (X : Lvs) {k : Nat} (na nc la ll lc) : ∀ i, i < 8 → (X.upd k na nc la ll lc).cell b (k + 1) i = setF (setF (X.cell b k) (k * 2) (.slice na (tN b k) nc)) (k * 2 + 1) (.slice la ll lc) i := fun i hi => by
  by_cases e1 : i = k * 2 + 1
  · subst e1
    rw [setF_same]
    unfold Lvs.cell Lvs.upd updV
    simp only
    rw [if_pos (by omega), if_neg (by omega), show (k * 2 + 1) / 2 = k by omega]
    simp
  rw [setF_other _ _ e1]
  by_cases e0 : i = k * 2
  · subst e0
    rw [setF_same]
    unfold Lvs.cell Lvs.upd updV
    simp only
    rw [if_pos (by omega), if_pos (by omega), show k * 2 / 2 = k by omega]
    simp
  rw [setF_other _ _ e0]
  unfold Lvs.cell Lvs.upd updV
  simp only
  by_cases h : i / 2 < k
  · have hne : ¬ i / 2 = k := by omega
    rw [if_pos h, if_pos (by omega)]
    simp only [if_neg hne]
  · rw [if_neg h, if_neg (by omega)]
theorem LvW.upd {w W b X k j na nc la ll lc} (h : LvW w W b X j) (hj : j ≠ k) : LvW w W b (X.upd k na nc la ll lc) j := by
  refine ⟨?_, ?_⟩
  · have := h.num; unfold Lvs.upd updV; simp only; rw [if_neg hj, if_neg hj]; exact this
  · intro h0; have := h.lst h0; unfold Lvs.upd updV; simp only; rw [if_neg hj, if_neg hj, if_neg hj]; exact this
theorem LvW.new {w W : World} {b : List UInt8} {X : Lvs} {k B : Nat} {na nc la ll lc} (hB : w.heap.size ≤ B) (h1 : Ow .u64 76 B W (.slice na (tN b k) nc) (nmT b k (tN b k))) (h2 : 0 < k → OwB 4 B W (.slice la ll lc) ((List.range (tN b k)).map (tBit b k))) : LvW w W b (X.upd k na nc la ll lc) k := by
  refine ⟨?_, fun h0 => ?_⟩
  · have := ownsRow_mono h1 hB
    rw [nmT_len] at this
    unfold Lvs.upd updV
    simp only [if_pos]
    exact this
  · obtain ⟨lb, lc', hve, _, _⟩ := OwB.sl (h2 h0)
    rw [List.length_map, List.length_range] at hve
    have hl : ll = tN b k := by injection hve with e1 e2 e3
    subst hl
    have := ownsRow_mono (h2 h0) hB
    rw [List.length_map, List.length_range] at this
    unfold Lvs.upd updV
    simp only [if_pos]
    exact ⟨trivial, this⟩
theorem OdS.next {w W g3 g4 g6 b cs X k na nc la ll lc} {B : Nat} (h : OdS w W g3 g4 g6 b cs X k) (hB : w.heap.size ≤ B)
    (h1 : Ow .u64 76 B W (.slice na (tN b k) nc) (nmT b k (tN b k))) (h2 : 0 < k → OwB 4 B W (.slice la ll lc) ((List.range (tN b k)).map (tBit b k))) :
    OdS w ((W.setCell ⟨g6, k * 2, none⟩ (.slice na (tN b k) nc)).setCell ⟨g6, k * 2 + 1, none⟩ (.slice la ll lc)) g3 g4 g6 b cs (X.upd k na nc la ll lc) (k + 1) := by
  have hK : Kept (fun g => g = g6) W ((W.setCell ⟨g6, k * 2, none⟩ (.slice na (tN b k) nc)).setCell ⟨g6, k * 2 + 1, none⟩ (.slice la ll lc)) := ((Kept.refl (fun g => g = g6) W).setCell (p := ⟨g6, k * 2, none⟩) (.inl rfl) _).setCell (p := ⟨g6, k * 2 + 1, none⟩) (.inl rfl) _
  have hr6 := rowC_to ((h.r6.set (k * 2) (.slice na (tN b k) nc)).set (k * 2 + 1) (.slice la ll lc)) (upd_cell b X na nc la ll lc)
  have hS : ∀ g, g = g6 → W.heap.size ≤ g ∨ ∃ x t, W.heap[g]? = some (.cells x t (0, 0)) ∧ t ≠ 76 ∧ t ≠ 4 := fun g e => by subst e; exact .inr ⟨_, _, h.r6, by decide, by decide⟩
  have hnew : LvW w W b (X.upd k na nc la ll lc) k := LvW.new hB h1 h2
  refine ⟨(hK.block _ (lt_of_block h.r3) h.n36).trans h.r3, h.r4.kept hK h.n46, hr6, (h.bl.setCell h.b6 _).setCell h.b6 _, h.b3, h.b6, h.n36, h.n46, fun j hj => ?_⟩
  by_cases e : j = k
  · subst e; exact hnew.kept hK hS
  · exact ((h.lv j (by omega)).upd e).kept hK hS
theorem slQ_oneD {e : TypeId} (w : World) (q : Qd) : SlQ (w.alloc (.cells (qcs q).toArray e)) (some ⟨w.heap.size, 0, none⟩) 1 1 [q] :=
  (OwQ.new (e := e) (base := 0) (w := w) [q] (by omega) (by simp)).sl.elim fun a h => by
    obtain ⟨c, h1, h2, _⟩ := h
    have h3 : a = some ⟨w.heap.size, 0, none⟩ ∧ c = 1 := by simp at h1; exact ⟨h1.1.symm, h1.2.symm⟩
    obtain ⟨rfl, rfl⟩ := h3
    simpa [cellsQ] using h2
/-- The second half of Open's walk. -/
structure OdT (wr W : World) (g11 : Nat) (av : Nat → Value) (v : Value) (L : List Qd) : Prop where
  bl : Below wr.heap.size wr W
  r11 : RowC W g11 4 29 av
  ow : OwQ 75 (g11 + 1) W v L
  lo : wr.heap.size ≤ g11
theorem OdT.below {wr W W' g11 av v L} (h : OdT wr W g11 av v L) (hb : Below W.heap.size W W') : OdT wr W' g11 av v L :=
  ⟨h.bl.trans (hb.mono h.bl.size), h.r11.below hb, h.ow.stay hb, h.lo⟩
theorem OdT.set {wr W g11 av v L} (h : OdT wr W g11 av v L) (j : Nat) (x : Value) : OdT wr (W.setCell ⟨g11, j, none⟩ x) g11 (setF av j x) v L :=
  ⟨h.bl.setCell h.lo _, h.r11.set j x, h.ow.kept ((Kept.refl (fun g => g = g11) W).setCell (p := ⟨g11, j, none⟩) (.inl rfl) _) (fun g e hs => by have := (h.ow.lt g e).1; omega), h.lo⟩
theorem OdT.put {wr W g11 av v L g13} (h : OdT wr W g11 av v L) (hne : g11 ≠ g13) (hg : wr.heap.size ≤ g13) (ho : ∀ g, v.ownBlock = some g → g < g13) (j : Nat) (x : Value) : OdT wr (W.setCell ⟨g13, j, none⟩ x) g11 av v L :=
  ⟨h.bl.setCell hg _, h.r11.kept ((Kept.refl (fun g => g = g13) W).setCell (p := ⟨g13, j, none⟩) (.inl rfl) _) hne, h.ow.kept ((Kept.refl (fun g => g = g13) W).setCell (p := ⟨g13, j, none⟩) (.inl rfl) _) (fun g e hs => by have := ho g e; omega), h.lo⟩
theorem OdT.step {wr W W' g11 av v v' L L'} (h : OdT wr W g11 av v L) (hb : Below (g11 + 1) W W') (ho : OwQ 75 (g11 + 1) W' v' L') : OdT wr W' g11 av v' L' :=
  ⟨h.bl.trans (hb.mono (by have := h.lo; omega)), (hb.block g11 (by omega)).trans h.r11, ho, h.lo⟩
theorem OdT.to {wr W g11 av av' v L} (h : OdT wr W g11 av v L) (hc : ∀ j, j < 4 → av' j = av j) : OdT wr W g11 av' v L := ⟨h.bl, rowC_to h.r11 hc, h.ow, h.lo⟩
theorem OdS.even {w W g3 g4 g6 b cs X} (h : OdS w W g3 g4 g6 b cs X 4) {k : Nat} (hk : k < 4) : W.cell? ⟨g6, k * 2, none⟩ = some (.slice (X.na k) (tN b k) (X.nc k)) := by
  rw [h.r6.cell (by omega)]
  unfold Lvs.cell
  rw [show k * 2 / 2 = k by omega, if_pos hk, if_pos (by omega)]
theorem OdS.odd {w W g3 g4 g6 b cs X} (h : OdS w W g3 g4 g6 b cs X 4) {k : Nat} (hk : k < 4) : W.cell? ⟨g6, k * 2 + 1, none⟩ = some (.slice (X.la k) (X.ll k) (X.lc k)) := by
  rw [h.r6.cell (by omega)]
  unfold Lvs.cell
  rw [show (k * 2 + 1) / 2 = k by omega, if_pos hk, if_neg (by omega)]
theorem OdS.num {w W g3 g4 g6 b cs X} (h : OdS w W g3 g4 g6 b cs X 4) {k i : Nat} (hk : k < 4) (hi : i < tN b k) : tN b k ≤ X.nc k ∧ X.nc k ≤ 9223372036854775807 ∧ ∃ g, X.na k = some ⟨g, 0, none⟩ ∧ W.cell? ⟨g, i, none⟩ = some (.int .u64 (tM b k i : Nat)) ∧ g < W.heap.size := by
  obtain ⟨h1, h2, h3⟩ := own_fit (h.lv k hk).num
  obtain ⟨g, e1, e2⟩ := h3 i hi
  have e3 : ((nmT b k (tN b k)).map (Value.int .u64))[i]? = some (.int .u64 (tM b k i : Nat)) := by
    unfold nmT
    simp [hi]
  rw [e3] at e2
  exact ⟨h1, h2, g, e1, e2, World.block_lt_of_cell? _ _ e2⟩
theorem OdS.bit {w W g3 g4 g6 b cs X} (h : OdS w W g3 g4 g6 b cs X 4) {k i : Nat} (hk : k < 4) (h0 : 0 < k) (hi : i < tN b k) : X.ll k = tN b k ∧ tN b k ≤ X.lc k ∧ X.lc k ≤ 9223372036854775807 ∧ ∃ g, X.la k = some ⟨g, 0, none⟩ ∧ W.cell? ⟨g, i, none⟩ = some (.bool (tBit b k i)) ∧ g < W.heap.size := by
  obtain ⟨hl, ho⟩ := (h.lv k hk).lst h0
  obtain ⟨h1, h2, h3⟩ := own_fit ho
  obtain ⟨g, e1, e2⟩ := h3 i hi
  have e3 : (((List.range (tN b k)).map (tBit b k)).map Value.bool)[i]? = some (.bool (tBit b k i)) := by simp [hi]
  rw [e3] at e2
  exact ⟨hl, h1, h2, g, e1, e2, World.block_lt_of_cell? _ _ e2⟩
theorem lk_zero {b : List UInt8} {k x y : Nat} (h : (lkE b k x y).1 = 0) : lkE b k x y = (0, 0) := by
  unfold lkE at h ⊢
  by_cases h1 : opErr (nums (tP b k)) (tN b k : Nat) (tW b k : Nat) ≠ 0
  · rw [if_pos h1] at h; exact absurd h h1
  rw [if_neg h1] at h ⊢
  by_cases h2 : bw (mxN b k (tN b k) : Nat) ≠ (tW b k : Nat)
  · rw [if_pos h2] at h; cases h
  rw [if_neg h2] at h ⊢
  by_cases h3 : 0 < k ∧ (lkB b k x y).1 ≠ 0
  · rw [if_pos h3] at h; exact absurd h h3.2
  rw [if_neg h3] at h ⊢
  exact ln_zero h
theorem op_zero {b : List UInt8} {xs ys : Nat → Nat} (h : (opT b xs ys 4).1 = 0) : opT b xs ys 4 = (0, 0) := by
  by_cases h1 : (opT b xs ys 3).1 ≠ 0
  · have := op_stop (k := 3) (j := 4) h1 (by omega); rw [this] at h; exact absurd h h1
  have e : opT b xs ys 4 = if (opT b xs ys 3).1 ≠ 0 then opT b xs ys 3 else lkE b 3 (xs 3) (ys 3) := rfl
  rw [if_neg h1] at e
  rw [e] at h ⊢
  exact lk_zero h
theorem mv_le {B : Nat → Nat → Bool} {t m : Nat} (h : mvT B m t = false) : ∀ d, mvT B (m + d) t = false
  | 0 => h
  | d + 1 => mv_down B t (m + d) (mv_le h d)
theorem row_there2 {W : World} {g N : Nat} {T : TypeId} {cs : Nat → Value} (h : RowC W g N T cs) {i : Nat} (hi : i + 1 < N) : W.there g i 2 := fun j hj => by
  rw [h.cell (by omega), h.frozen]; exact ⟨rfl, rfl⟩
theorem ints_of {N : Nat} {cs : Nat → Value} (h : ∀ i, i < N → ∃ x, cs i = .int .i64 x) : ∃ z : Nat → Int, ∀ i, i < N → cs i = .int .i64 (z i) :=
  ⟨fun i => match cs i with | .int _ x => x | _ => 0, fun i hi => by obtain ⟨x, hx⟩ := h i hi; simp only [hx]⟩
theorem row13_int {cs : Nat → Value} {z : Nat → Int} (h : ∀ i, i < 13 → cs i = .int .i64 (z i)) : rowC 13 cs = #[.int .i64 (z 0), .int .i64 (z 1), .int .i64 (z 2), .int .i64 (z 3), .int .i64 (z 4), .int .i64 (z 5), .int .i64 (z 6), .int .i64 (z 7), .int .i64 (z 8), .int .i64 (z 9), .int .i64 (z 10), .int .i64 (z 11), .int .i64 (z 12)] := by
  show #[cs 0, cs 1, cs 2, cs 3, cs 4, cs 5, cs 6, cs 7, cs 8, cs 9, cs 10, cs 11, cs 12] = _
  rw [h 0 (by omega), h 1 (by omega), h 2 (by omega), h 3 (by omega), h 4 (by omega), h 5 (by omega), h 6 (by omega), h 7 (by omega), h 8 (by omega), h 9 (by omega), h 10 (by omega), h 11 (by omega), h 12 (by omega)]
/-- A fault is handed back. -/
theorem od_fault {w W : World} {g3 : Nat} (x y : Int) (h : W.heap[g3]? = some (.cells #[.int .i64 0, .int .i64 0] 33 (0, 0))) (hb : Below w.heap.size w W) (h3 : w.heap.size ≤ g3) : (W.setRow g3 #[.int .i64 x, .int .i64 y]).heap[g3]? = some (.cells #[.int .i64 x, .int .i64 y] 33 (0, 0)) ∧ Below w.heap.size w (W.setRow g3 #[.int .i64 x, .int .i64 y]) :=
  ⟨setRow_heap W g3 _ _ _ _ h, below_setRow hb h3 _⟩
set_option maxRecDepth 100000 in
set_option maxHeartbeats 16000000 in
theorem rdopen_calls (w : World) (a : Option Addr) (c : Nat) (b : List UInt8) (hs : SlI .u8 w a b.length c (nums b)) (ha : ∀ x, a = some x → x.block < w.heap.size) (hlen : b.length ≤ 140737488355328) :
    Calls Tryd.prog 9 #[.slice a b.length c] w (RdoR w b) := by
  have hle := hs.le
  have hmx := hs.max
  have HI2 := Lib.hid Tryd.sizeFlT
  have HIL := Lib.hid Tryd.sizeLvT
  have HIH := Lib.hid Tryd.sizeHdT
  have HS := Lib.hid hs
  have hb1 := (Below.refl w.heap.size w).alloc (Nat.le_refl _) (.cells #[.int .i64 0, .int .i64 0] 33)
  have hr3 := heap_alloc_new w (.cells #[.int .i64 0, .int .i64 0] 33)
  have hvw := rview18_calls (w.alloc (.cells #[.int .i64 0, .int .i64 0] 33)) a c b (hs.keep hb1) (fun x hx => by have := ha x hx; simp; omega) hlen
  obtain ⟨er, her⟩ : ∃ er, er = (vwE b).1 := ⟨_, rfl⟩
  obtain ⟨y, hy⟩ : ∃ y, y = (vwE b).2 := ⟨_, rfl⟩
  have hfl : flT (vwE b) = .agg #[.int .i64 (y : Nat), .int .i64 er] := by rw [hy, her]; rfl
  have HVW := Lib.hid hvw
  have HFL := Lib.hid hfl
  have HER := Lib.hid her
  have HY := Lib.hid hy
  have HR3 := Lib.hid hr3
  have HB1 := Lib.hid hb1
  clear hs ha hvw hfl her hy hr3 hb1
  go_enter Tryd.func9, Tryd.ntmps9
  go_upto_region 2 with (go_at_call 6; (with_reducible refine HVW.out.mono ?_); rintro e w2 ⟨hb2, cs, he, hci, hcs⟩; obtain ⟨z, hz⟩ := ints_of hci; rw [HFL.out, row13_int hz] at he; subst he; (have HB2 := Lib.hid hb2); (have HZ := Lib.hid hz); (have HCS := Lib.hid hcs); clear hb2 hci hcs hz)
  rw [← row13_int HZ.out]
  have hb3 : Below w2.heap.size w2 ((w2.alloc (.cells (rowC 13 cs) 31)).alloc (.cells #[.int .i64 (y : Nat), .int .i64 er] 33)) := ((Below.refl _ w2).alloc (Nat.le_refl _) _).alloc (by simp) _
  have hr4 : RowC ((w2.alloc (.cells (rowC 13 cs) 31)).alloc (.cells #[.int .i64 (y : Nat), .int .i64 er] 33)) w2.heap.size 13 31 cs := (Below.heap_alloc _ _ _ (by simp)).trans (heap_alloc_new _ _)
  have hr5 : ((w2.alloc (.cells (rowC 13 cs) 31)).alloc (.cells #[.int .i64 (y : Nat), .int .i64 er] 33)).heap[w2.heap.size + 1]? = some (.cells #[.int .i64 (y : Nat), .int .i64 er] 33 (0, 0)) := by
    have := heap_alloc_new (w2.alloc (.cells (rowC 13 cs) 31)) (.cells #[.int .i64 (y : Nat), .int .i64 er] 33)
    simpa using this
  have hz3 : ((w2.alloc (.cells (rowC 13 cs) 31)).alloc (.cells #[.int .i64 (y : Nat), .int .i64 er] 33)).heap.size = w2.heap.size + 2 := by simp
  generalize (w2.alloc (.cells (rowC 13 cs) 31)).alloc (.cells #[.int .i64 (y : Nat), .int .i64 er] 33) = w3 at hb3 hr4 hr5 hz3 ⊢
  have hz2 : w.heap.size + 1 ≤ w2.heap.size := by have := HB2.out.size; simpa using this
  have hbl : Below w.heap.size w w3 := HB1.out.trans ((HB2.out.mono (by simp)).trans (hb3.mono (by omega)))
  have hr3 : w3.heap[w.heap.size]? = some (.cells #[.int .i64 0, .int .i64 0] 33 (0, 0)) := (hb3.block _ (by omega)).trans ((HB2.out.block _ (by simp)).trans HR3.out)
  obtain ⟨g3, hg3⟩ : ∃ g, g = w.heap.size := ⟨_, rfl⟩
  obtain ⟨g4, hg4⟩ : ∃ g, g = w2.heap.size := ⟨_, rfl⟩
  obtain ⟨g5, hg5⟩ : ∃ g, g = g4 + 1 := ⟨_, rfl⟩
  have hm3 : w.heap.size ≤ g3 := by omega
  rw [← hg3] at hr3 hz2
  rw [← hg4] at hr4 hr5 hz3 hz2
  rw [← hg5] at hr5
  rw [← hg4, ← hg3, ← hg5]
  have HR3' := Lib.hid hr3
  have HR4 := Lib.hid hr4
  have HR5 := Lib.hid hr5
  have HBL := Lib.hid hbl
  have HM3 := Lib.hid hm3
  have hne3 : g5 ≠ g3 := by omega
  have HSZ := Lib.hid (show g3 < w3.heap.size ∧ g4 < w3.heap.size ∧ g5 < w3.heap.size ∧ g3 < g4 ∧ w.heap.size ≤ w3.heap.size by omega)
  have m1 : w3.cell? ⟨g5, 1, none⟩ = some (.int .i64 er) := cellT1 hr5
  clear hb3 hr4 hr5 hr3 hz3 hz2 hbl hm3 hg3 hg4 hg5 HB1 HB2 HR3 HVW HFL HZ
  by_cases he : er ≠ 0
  · have e1 : (er != 0) = true := by simp [he]
    have hE : (vwE b).1 ≠ 0 := by rw [← HER.out]; exact he
    have HEV := Lib.hid (show opT b (fun _ => 0) (fun _ => 0) 4 = (er, y) by rw [op_stop (k := 0) (j := 4) hE (by omega), HER.out, HY.out]; rfl)
    have HU := Lib.hid (show opUQ b (fun _ => 0) (fun _ => 0) from fun k hk h0 => by rw [op_stop (k := 0) (j := k) hE (by omega)] at h0; exact absurd h0 hE)
    clear he hE
    go_upto_region 3 with fail
    have hD3 : w3.drew.heap[g3]? = some (.cells #[.int .i64 0, .int .i64 0] 33 (0, 0)) := HR3'.out
    have hDF : w3.drew.heap[g5]? = some (.cells #[.int .i64 (y : Nat), .int .i64 er] 33 (0, 0)) := HR5.out
    refine wh_startN (S := fun W => W.heap[g5]? = some (.cells #[.int .i64 (y : Nat), .int .i64 er] 33 (0, 0))) 3 rfl (by kernel_rfl) ?_
    refine wh_takeD 0 25 (.agg #[.int .i64 (y : Nat), .int .i64 er]) rfl rfl rfl (by kernel_rfl) (by kernel_rfl) (by kernel_rfl) (fun _ _ _ _ h => h) hDF (fun w' h => by exact run_load_row 33 _ rfl g5 rfl 33 _ _ _ w' h Tryd.underlying33 rfl HI2.out) ?_
    refine wh_takeD 1 2 (.slice none 0 0) rfl rfl rfl (by kernel_rfl) (by kernel_rfl) (by kernel_rfl) (fun _ _ _ _ h => h) hDF (fun w' h => by simp [go_sem]) ?_
    refine wh_skipD 2 (w' := w3.drew.setRow g3 #[.int .i64 (y : Nat), .int .i64 er]) rfl rfl rfl (by kernel_rfl) (by exact run_store_rowO 33 _ _ rfl g3 _ (by simp [go_sem]) (by simp [go_sem]) 33 _ hD3 HI2.out rfl (by simp [Value.oneCell'])) ((setRow_other _ _ _ _ hne3).trans hDF) ?_
    refine wpAnyH_done (by kernel_rfl) ?_ 0
    obtain ⟨n1, n2⟩ := od_fault (y : Nat) er hD3 (Below.drew HBL.out) HM3.out
    generalize w3.drew.setRow g3 #[.int .i64 (y : Nat), .int .i64 er] = wz at n1 n2 ⊢
    have HN1 := Lib.hid n1
    have HN2 := Lib.hid n2
    clear n1 n2 hD3 hDF m1
    simp only [go_sem, List.setIfInBounds_toArray, List.set_cons_succ, List.set_cons_zero]
    go_wp2
    refine bodyPost_ret (results_tcO rfl _ _ g3 _ _ _ _ rfl HN1.out Tryd.underlying33 rfl HI2.out) rfl ⟨.slice none 0 0, (fun _ => 0), (fun _ => 0), HU.out, ?_, HN2.out⟩
    rw [HEV.out]; rfl
  obtain rfl : er = 0 := Classical.not_not.1 he
  clear he
  have hV0 : (vwE b).1 = 0 := HER.out.symm
  have hLC := lv_ok (show (lvE b 4).1 = 0 by
    unfold vwE at hV0
    by_cases hl : (lvE b 4).1 ≠ 0
    · rw [if_pos hl] at hV0; exact absurd hV0 hl
    · exact Classical.not_not.1 hl)
  have HV0 := Lib.hid hV0
  have HC := Lib.hid hLC.2.1
  have HL := Lib.hid hLC.2.2
  have HR4' := Lib.hid (rowC_to HR4.out (fun i hi => (HCS.out HV0.out i hi).symm))
  have e1 : ((0 : Int) != 0) = false := rfl
  clear hV0 hLC
  go_upto_region 5 with fail
  clear m1 e1 hne3
  have hr6 := heap_alloc_new w3 (.cells #[.slice none 0 0, .slice none 0 0, .slice none 0 0, .slice none 0 0, .slice none 0 0, .slice none 0 0, .slice none 0 0, .slice none 0 0] 72)
  have hb4 := (Below.refl w3.heap.size w3).alloc (Nat.le_refl _) (.cells #[.slice none 0 0, .slice none 0 0, .slice none 0 0, .slice none 0 0, .slice none 0 0, .slice none 0 0, .slice none 0 0, .slice none 0 0] 72)
  generalize w3.alloc (.cells #[.slice none 0 0, .slice none 0 0, .slice none 0 0, .slice none 0 0, .slice none 0 0, .slice none 0 0, .slice none 0 0, .slice none 0 0] 72) = w4 at hr6 hb4 ⊢
  obtain ⟨g6, hg6⟩ : ∃ g, g = w3.heap.size := ⟨_, rfl⟩
  have hod : OdS w w4 g3 g4 g6 b (hvT b) ⟨fun _ => none, fun _ => 0, fun _ => none, fun _ => 0, fun _ => 0⟩ 0 := by
    have hh := HSZ.out
    refine ⟨(hb4.block _ (by omega)).trans HR3'.out, HR4'.out.below hb4, ?_, HBL.out.trans (hb4.mono (by omega)), HM3.out, by omega, by omega, by omega, fun j hj => by omega⟩
    rw [hg6]; exact hr6
  rw [← hg6]
  have HOD := Lib.hid hod
  have HGS := Lib.hid (show w.heap.size ≤ g6 ∧ g3 < g6 ∧ g4 < g6 by have := HSZ.out; omega)
  clear hr6 hb4 hg6 hod HR3' HR4 HR5 HR4' HBL HSZ
  go_wp2_with fail
  go_loopw [7] (fun iv wr => ∃ (k : Nat) (X : Lvs) (xs ys : Nat → Nat), iv = .int .i64 (k : Nat) ∧ k ≤ 4 ∧ opKQ b xs ys k ∧ OdS w wr g3 g4 g6 b (hvT b) X k) (fun iv _ => 4 - (intOf iv).toNat)
  case atStart => exact ⟨0, _, fun _ => 0, fun _ => 0, rfl, by omega, ⟨HV0.out, fun j hj => by omega⟩, HOD.out⟩
  case round =>
    rename World => wr
    obtain ⟨k, X, xs, ys, rfl, hk, hq, ho⟩ := hrel
    have HQ := Lib.hid hq
    have HO := Lib.hid ho
    by_cases hk4 : k < 4
    · have dk : decide ((k : Int) < 4) = true := decide_eq_true (by omega)
      have hop := rlopen_calls wr a c b (HS.out.keep ho.bl) (hvT b) (fun _ _ => rfl) k hk4 (HC.out k hk4) (HL.out k hk4) hlen
      have HOP := Lib.hid hop
      have HI13 := Lib.hid (show (Tryd.prog.info? 31).map (·.size) = some (rowC 13 (hvT b)).size by rw [rowC_size]; exact Tryd.sizeHdT)
      clear hq ho hop
      go_upto_region 9 with (first
        | (refine wpList_load_row rfl 31 _ rfl g4 rfl _ (rowC 13 (hvT b)) _ _ HO.out.r4 Tryd.underlying31 rfl HI13.out ?_)
        | (go_at_call 23; (with_reducible refine HOP.out.mono ?_); rintro e w5 ⟨s1, s2, x, z, hxy, he, how, ⟨⟨a1, n1, c1, h1⟩, a2, n2, c2, h2⟩, hb⟩; subst h1; subst h2; obtain ⟨er, her⟩ : ∃ er, er = (lkE b k x z).1 := ⟨_, rfl⟩; obtain ⟨ey, hey⟩ : ∃ ey, ey = (lkE b k x z).2 := ⟨_, rfl⟩; rw [show flT (lkE b k x z) = .agg #[.int .i64 (ey : Nat), .int .i64 er] by rw [her, hey]; rfl] at he; subst he; (have HXY := Lib.hid hxy); (have HLK := Lib.hid (show lkE b k x z = (er, ey) from Prod.ext her.symm hey.symm)); rw [← her] at how; (have HOW := Lib.hid how); (have HB5 := Lib.hid hb); clear hxy her hey how hb))
      have hb8 := ((Below.refl w5.heap.size w5).alloc (Nat.le_refl _) (.cells #[.slice a1 n1 c1, .slice a2 n2 c2] 71)).alloc (by simp) (.cells #[.int .i64 (ey : Nat), .int .i64 er] 33)
      have hr8 : ((w5.alloc (.cells #[.slice a1 n1 c1, .slice a2 n2 c2] 71)).alloc (.cells #[.int .i64 (ey : Nat), .int .i64 er] 33)).heap[w5.heap.size]? = some (.cells #[.slice a1 n1 c1, .slice a2 n2 c2] 71 (0, 0)) := (Below.heap_alloc _ _ _ (by simp)).trans (heap_alloc_new w5 (.cells #[.slice a1 n1 c1, .slice a2 n2 c2] 71))
      have hr9 : ((w5.alloc (.cells #[.slice a1 n1 c1, .slice a2 n2 c2] 71)).alloc (.cells #[.int .i64 (ey : Nat), .int .i64 er] 33)).heap[w5.heap.size + 1]? = some (.cells #[.int .i64 (ey : Nat), .int .i64 er] 33 (0, 0)) := by
        have := heap_alloc_new (w5.alloc (.cells #[.slice a1 n1 c1, .slice a2 n2 c2] 71)) (.cells #[.int .i64 (ey : Nat), .int .i64 er] 33)
        simpa using this
      have hz8 : ((w5.alloc (.cells #[.slice a1 n1 c1, .slice a2 n2 c2] 71)).alloc (.cells #[.int .i64 (ey : Nat), .int .i64 er] 33)).heap.size = w5.heap.size + 2 := by simp
      generalize (w5.alloc (.cells #[.slice a1 n1 c1, .slice a2 n2 c2] 71)).alloc (.cells #[.int .i64 (ey : Nat), .int .i64 er] 33) = wa at hb8 hr8 hr9 hz8 ⊢
      obtain ⟨g8, hg8⟩ : ∃ g, g = w5.heap.size := ⟨_, rfl⟩
      obtain ⟨g9, hg9⟩ : ∃ g, g = g8 + 1 := ⟨_, rfl⟩
      have hz5 := HB5.out.size
      have h6 := HO.out.r6.lt
      have h3 := lt_of_block HO.out.r3
      have hbA := HB5.out.trans (hb8.mono HB5.out.size)
      have HOA := Lib.hid (HO.out.below hbA)
      have HOWA := Lib.hid (fun h => And.intro (Ow.keep8 (HOW.out h).1 hb8) (fun h0 => OwB.keep ((HOW.out h).2 h0) hb8))
      rw [← hg8] at hr8 hr9 hz8 ⊢
      rw [← hg9] at hr9 ⊢
      have hne3 : g9 ≠ g3 := by omega
      have HG8 := Lib.hid (show g6 < g8 by omega)
      have HWR := Lib.hid (show w.heap.size ≤ wr.heap.size from HO.out.bl.size)
      have HR8 := Lib.hid hr8
      have HR9 := Lib.hid hr9
      have m1 : wa.cell? ⟨g9, 1, none⟩ = some (.int .i64 er) := cellT1 hr9
      clear hb8 hr8 hr9 hz8 hg8 hg9 hz5 h6 h3 hbA HB5 HOW HOP dk
      by_cases he : er ≠ 0
      · have e1 : (er != 0) = true := by simp [he]
        obtain ⟨hu, hev⟩ := HQ.out.bad HXY.out (by rw [HLK.out]; exact he) hk4
        have HEV := Lib.hid (hev.trans HLK.out)
        have HU := Lib.hid hu
        clear he hu hev
        go_upto_region 10 with fail
        have hD3 : wa.drew.heap[g3]? = some (.cells #[.int .i64 0, .int .i64 0] 33 (0, 0)) := HOA.out.r3
        have hDF : wa.drew.heap[g9]? = some (.cells #[.int .i64 (ey : Nat), .int .i64 er] 33 (0, 0)) := HR9.out
        refine wh_startN (S := fun W => W.heap[g9]? = some (.cells #[.int .i64 (ey : Nat), .int .i64 er] 33 (0, 0))) 3 rfl (by kernel_rfl) ?_
        refine wh_takeD 0 40 (.agg #[.int .i64 (ey : Nat), .int .i64 er]) rfl rfl rfl (by kernel_rfl) (by kernel_rfl) (by kernel_rfl) (fun _ _ _ _ h => h) hDF (fun w' h => by exact run_load_row 33 _ rfl g9 rfl 33 _ _ _ w' h Tryd.underlying33 rfl HI2.out) ?_
        refine wh_takeD 1 2 (.slice none 0 0) rfl rfl rfl (by kernel_rfl) (by kernel_rfl) (by kernel_rfl) (fun _ _ _ _ h => h) hDF (fun w' h => by simp [go_sem]) ?_
        refine wh_skipD 2 (w' := wa.drew.setRow g3 #[.int .i64 (ey : Nat), .int .i64 er]) rfl rfl rfl (by kernel_rfl) (by exact run_store_rowO 33 _ _ rfl g3 _ (by simp [go_sem]) (by simp [go_sem]) 33 _ hD3 HI2.out rfl (by simp [Value.oneCell'])) ((setRow_other _ _ _ _ hne3).trans hDF) ?_
        refine wpAnyH_done (by kernel_rfl) ?_ 0
        obtain ⟨n1, n2⟩ := od_fault (ey : Nat) er hD3 (Below.drew HOA.out.bl) HM3.out
        generalize wa.drew.setRow g3 #[.int .i64 (ey : Nat), .int .i64 er] = wz at n1 n2 ⊢
        have HN1 := Lib.hid n1
        have HN2 := Lib.hid n2
        clear n1 n2 hD3 hDF m1
        simp only [go_sem, List.setIfInBounds_toArray, List.set_cons_succ, List.set_cons_zero]
        go_wp2
        refine bodyPost_ret (results_tcO rfl _ _ g3 _ _ _ _ rfl HN1.out Tryd.underlying33 rfl HI2.out) rfl ⟨.slice none 0 0, (upF xs k x), (upF ys k z), HU.out, ?_, HN2.out⟩
        rw [HEV.out]; rfl
      obtain rfl : er = 0 := Classical.not_not.1 he
      clear he
      have e1 : ((0 : Int) != 0) = false := rfl
      obtain ⟨hw1, hw2⟩ := HOWA.out rfl
      obtain ⟨va1, vc1, hv1, _, _⟩ := hw1.sl
      rw [nmT_len] at hv1
      have hn1 : n1 = tN b k := by injection hv1 with h1 h2 h3
      clear hv1
      subst hn1
      have htH := row_there2 HOA.out.r6 (i := k * 2) (by omega)
      have HTH := Lib.hid htH
      have dk2 : ¬ (4 : Int) ≤ (k : Int) := by omega
      clear hw1 hw2 htH
      go_wp2_with (first
        | (refine wpList_load_row rfl 71 _ rfl g8 rfl _ #[.slice a1 (tN b k) c1, .slice a2 n2 c2] _ _ HR8.out Tryd.underlying71 rfl HIL.out ?_)
        | (refine wpList_store_mid rfl 71 (.tmp 43) (.tmp 42) rfl g6 (k * 2) #[.slice a1 (tN b k) c1, .slice a2 n2 c2] rfl rfl HTH.out HIL.out (by simp [Value.oneCell']) ?_))
      have hnx := HOA.out.next (na := a1) (nc := c1) (la := a2) (ll := n2) (lc := c2) HWR.out (HOWA.out rfl).1 (HOWA.out rfl).2
      go_roundw
      case rel => exact ⟨k + 1, X.upd k a1 c1 a2 n2 c2, upF xs k x, upF ys k z, rfl, by omega, HQ.out.next HXY.out (by rw [HLK.out]), hnx⟩
      case measure => simp [intOf]; omega
    · have hke : k = 4 := by omega
      clear HQ HO
      have hq4 : opKQ b xs ys 4 := by rw [← hke]; exact hq
      have ho4 : OdS w wr g3 g4 g6 b (hvT b) X 4 := by rw [← hke]; exact ho
      have HQ := Lib.hid hq4
      have HO := Lib.hid ho4
      have hT := (lvt_of HV0.out hq4).1
      have HT := Lib.hid hT
      obtain ⟨n, hn⟩ : ∃ n, n = tN b 3 := ⟨_, rfl⟩
      have hnn : n ≤ 1048576 := by rw [hn]; exact hT.le
      have HN := Lib.hid hn
      have dk : decide ((k : Int) < 4) = false := decide_eq_false (by omega)
      clear hT hn hq ho hk hk4 hq4 ho4 hke
      go_upto_region 14 with fail
      have hr11 := heap_alloc_new wr (.cells #[.int .i64 0, .int .i64 0, .int .i64 0, .int .i64 0] 29)
      have hb11 := (Below.refl wr.heap.size wr).alloc (Nat.le_refl _) (.cells #[.int .i64 0, .int .i64 0, .int .i64 0, .int .i64 0] 29)
      generalize wr.alloc (.cells #[.int .i64 0, .int .i64 0, .int .i64 0, .int .i64 0] 29) = w4 at hr11 hb11 ⊢
      obtain ⟨g11, hg11⟩ : ∃ g, g = wr.heap.size := ⟨_, rfl⟩
      have hod : OdT wr w4 g11 (fun _ => .int .i64 0) (.slice none 0 0) [] := ⟨hb11, by rw [hg11]; exact hr11, OwQ.nil _ _ _, by omega⟩
      rw [← hg11]
      have HOT := Lib.hid hod
      have H3 := lt_of_block HO.out.r3
      have H4 := HO.out.r4.lt
      have H6 := HO.out.r6.lt
      have HLT := Lib.hid (show g3 < g11 ∧ g4 < g11 ∧ g6 < g11 ∧ w.heap.size ≤ g11 ∧ g11 = wr.heap.size by have := HO.out.bl.size; omega)
      clear hr11 hb11 hod hg11 H3 H4 H6 HGS dk
      go_wp2_with fail
      go_loopw [10, 12] (fun vv iv W => ∃ (i : Nat) (av : Nat → Value) (L : List Qd), iv = .int .i64 (i : Nat) ∧ i ≤ n ∧ L.length = i ∧ OdT wr W g11 av vv L ∧ ∀ j, j < 3 → av j = .int .i64 (anT (tBit b) (3 - j) i : Nat)) (fun _ iv _ => n - (intOf iv).toNat)
      case atStart => exact ⟨0, _, [], rfl, by omega, rfl, HOT.out, fun j hj => by rw [an_zero]; rfl⟩
      case round =>
        rename World => wt
        obtain ⟨i, av, L, rfl, hi, hL, ht, hat⟩ := hrel
        have HOI := HO.out.below ht.bl
        have e4 : wt.cell? ⟨g4, 3, none⟩ = some (.int .i64 (n : Nat)) := by rw [HOI.r4.cell (by omega), HN.out]; rfl
        have HTT := Lib.hid ht
        have HAT := Lib.hid hat
        have HLL := Lib.hid hL
        by_cases hin : i < n
        · have din : decide ((i : Int) < (n : Int)) = true := decide_eq_true (by omega)
          have c3 : wt.cell? ⟨g11, 3, none⟩ = some (av 3) := ht.r11.cell (by omega)
          have f3 : wt.frozen? ⟨g11, 3, none⟩ = false := ht.r11.frozen 3
          clear ht hat hL HOI
          go_upto_region 19 with fail
          have ht5 : OdT wr (wt.setCell ⟨g11, 3, none⟩ (.int .i64 (i : Nat))) g11 (fun j => .int .i64 (anT (tBit b) (3 - j) i : Nat)) u10 L := (HTT.out.set 3 (.int .i64 (i : Nat))).to (fun j hj => by
            by_cases e : j = 3
            · subst e; rw [setF_same]; rfl
            · rw [setF_other _ _ e, HAT.out j (by omega)])
          have hz5 : (wt.setCell ⟨g11, 3, none⟩ (.int .i64 (i : Nat))).heap.size = wt.heap.size := by simp [World.setCell]
          have hr13 := heap_alloc_new (wt.setCell ⟨g11, 3, none⟩ (.int .i64 (i : Nat))) (.cells #[.int .i64 0, .int .i64 0, .int .i64 0, .int .i64 0] 75)
          have ht6 := ht5.below ((Below.refl _ _).alloc (Nat.le_refl _) (.cells #[.int .i64 0, .int .i64 0, .int .i64 0, .int .i64 0] 75))
          generalize (wt.setCell ⟨g11, 3, none⟩ (.int .i64 (i : Nat))).alloc (.cells #[.int .i64 0, .int .i64 0, .int .i64 0, .int .i64 0] 75) = w6 at hr13 ht6 ⊢
          obtain ⟨g13, hg13⟩ : ∃ g, g = wt.heap.size := ⟨_, rfl⟩
          rw [hz5, ← hg13] at hr13
          rw [← hg13]
          have HOWN := Lib.hid (show ∀ g, u10.ownBlock = some g → g < g13 from fun g e => by have := (HTT.out.ow.lt g e).2; omega)
          have HL13 := Lib.hid (show g11 < g13 by have := HTT.out.r11.lt; omega)
          have HR13 := Lib.hid (show RowC w6 g13 4 75 (fun _ => .int .i64 0) from hr13)
          have HT6 := Lib.hid ht6
          clear e4 c3 f3 ht5 hz5 hr13 ht6 hg13 HTT HAT din
          go_wp2_with fail
          go_loopw [14] (fun kv W => ∃ (k : Nat) (z : Nat → Int), kv = .int .i64 (k : Nat) ∧ k ≤ 4 ∧ RowC W g13 4 75 (fun j => .int .i64 (z j)) ∧ OdT wr W g11 (fun j => .int .i64 (anT (tBit b) (3 - j) i : Nat)) u10 L) (fun kv _ => 4 - (intOf kv).toNat)
          case atStart => exact ⟨0, fun _ => 0, rfl, by omega, HR13.out, HT6.out⟩
          case round =>
            rename World => wk
            obtain ⟨k, z, rfl, hk, h13, htk⟩ := hrel
            have H13 := Lib.hid h13
            have HTK := Lib.hid htk
            by_cases hk4 : k < 4
            · have dk : decide ((k : Int) < 4) = true := decide_eq_true (by omega)
              obtain ⟨q, hq⟩ : ∃ q, q = anT (tBit b) (3 - k) i := ⟨_, rfl⟩
              have hqn : q < tN b k := by
                have := an_lt HT.out (t := i) (by rw [← HN.out]; exact hin) (m := 3 - k) (by omega)
                rw [show 3 - (3 - k) = k by omega] at this
                rw [hq]; exact this
              have HOI := HO.out.below htk.bl
              obtain ⟨_, _, gn0, hna0, _, hgn0⟩ := HO.out.num hk4 hqn
              obtain ⟨hcp, hcm, gn, hna, hcn, _⟩ := HOI.num hk4 hqn
              have hge : gn0 = gn := by rw [hna0] at hna; injection hna with h1; injection h1
              have ce := HOI.even hk4
              have ca : wk.drew.cell? ⟨g11, k, none⟩ = some (.int .i64 (q : Nat)) := by rw [hq]; exact htk.r11.cell hk4
              rw [hna] at ce
              have hg613 : gn < g13 ∧ g6 < g13 ∧ g11 < g13 ∧ wr.heap.size ≤ g13 := by have := HLT.out; have := HL13.out; omega
              have HGG := Lib.hid hg613
              have htD := htk.below (Below.drew (Below.refl _ wk))
              have h13D : RowC wk.drew g13 4 75 (fun j => .int .i64 (z j)) := h13
              have ceD : wk.drew.cell? ⟨g6, k * 2, none⟩ = some (.slice (some ⟨gn, 0, none⟩) (tN b k) (X.nc k)) := ce
              have cnD : wk.drew.cell? ⟨gn, q, none⟩ = some (.int .u64 (tM b k q : Nat)) := hcn
              generalize tM b k q = v at cnD
              generalize tN b k = m at hqn ceD hcp
              generalize X.nc k = cc at hcp hcm ceD
              have hki : ¬ (4 : Int) ≤ (k : Int) := by omega
              have hqi : ¬ (m : Int) ≤ (q : Int) := by omega
              clear h13 htk HOI hna0 hgn0 hna hcn hge ce hg613 hq
              go_upto_region 22 with fail
              clear dk
              refine wh_startB (S := fun W => W.cell? ⟨g6, k * 2, none⟩ = some (.slice (some ⟨gn, 0, none⟩) m cc) ∧ W.cell? ⟨g11, k, none⟩ = some (.int .i64 (q : Nat)) ∧ W.cell? ⟨gn, q, none⟩ = some (.int .u64 (v : Nat))) 13 rfl (by kernel_rfl) ?_
              have hS : wk.drew.cell? ⟨g6, k * 2, none⟩ = some (.slice (some ⟨gn, 0, none⟩) m cc) ∧ wk.drew.cell? ⟨g11, k, none⟩ = some (.int .i64 (q : Nat)) ∧ wk.drew.cell? ⟨gn, q, none⟩ = some (.int .u64 (v : Nat)) := ⟨ceD, ca, cnD⟩
              have b13 := h13D.cell hk4
              have f13 := h13D.frozen k
              have HTD := Lib.hid htD
              have H13D := Lib.hid h13D
              clear ceD ca cnD htD h13D
              generalize wk.drew = w7 at hS b13 f13 HTD H13D ⊢
              refine wh_takeD 0 57 (.int .i64 (k : Nat)) rfl rfl rfl (by kernel_rfl) (by kernel_rfl) (by kernel_rfl) (fun _ _ _ _ h => h) hS (fun w' h => by simp [go_sem]) ?_
              simp only [List.setIfInBounds_toArray, List.set_cons_succ, List.set_cons_zero]
              refine wh_takeD 1 58 (.int .i64 (k : Nat)) rfl rfl rfl (by kernel_rfl) (by kernel_rfl) (by kernel_rfl) (fun _ _ _ _ h => h) hS (fun w' h => by simp [go_sem]) ?_
              simp only [List.setIfInBounds_toArray, List.set_cons_succ, List.set_cons_zero]
              refine wh_takeD 2 59 (.pointer (some ⟨g6, k * 2, none⟩)) rfl rfl rfl (by kernel_rfl) (by kernel_rfl) (by kernel_rfl) (fun _ _ _ _ h => h) hS (fun w' h => by simp [go_sem, hk4, hki]) ?_
              simp only [List.setIfInBounds_toArray, List.set_cons_succ, List.set_cons_zero]
              refine wh_takeD 3 60 (.pointer (some ⟨g6, k * 2, none⟩)) rfl rfl rfl (by kernel_rfl) (by kernel_rfl) (by kernel_rfl) (fun _ _ _ _ h => h) hS (fun w' h => by simp [go_sem]) ?_
              simp only [List.setIfInBounds_toArray, List.set_cons_succ, List.set_cons_zero]
              refine wh_takeD 4 61 (.slice (some ⟨gn, 0, none⟩) m cc) rfl rfl rfl (by kernel_rfl) (by kernel_rfl) (by kernel_rfl) (fun _ _ _ _ h => h) hS (fun w' h => by have k1 := h.1; simp [go_sem, k1]) ?_
              simp only [List.setIfInBounds_toArray, List.set_cons_succ, List.set_cons_zero]
              refine wh_takeD 5 62 (.int .i64 (k : Nat)) rfl rfl rfl (by kernel_rfl) (by kernel_rfl) (by kernel_rfl) (fun _ _ _ _ h => h) hS (fun w' h => by simp [go_sem]) ?_
              simp only [List.setIfInBounds_toArray, List.set_cons_succ, List.set_cons_zero]
              refine wh_takeD 6 63 (.pointer (some ⟨g11, k, none⟩)) rfl rfl rfl (by kernel_rfl) (by kernel_rfl) (by kernel_rfl) (fun _ _ _ _ h => h) hS (fun w' h => by simp [go_sem, hk4, hki]) ?_
              simp only [List.setIfInBounds_toArray, List.set_cons_succ, List.set_cons_zero]
              refine wh_takeD 7 64 (.int .i64 (q : Nat)) rfl rfl rfl (by kernel_rfl) (by kernel_rfl) (by kernel_rfl) (fun _ _ _ _ h => h) hS (fun w' h => by have k1 := h.2.1; simp [go_sem, k1]) ?_
              simp only [List.setIfInBounds_toArray, List.set_cons_succ, List.set_cons_zero]
              refine wh_takeD 8 65 (.pointer (some ⟨gn, q, none⟩)) rfl rfl rfl (by kernel_rfl) (by kernel_rfl) (by kernel_rfl) (fun _ _ _ _ h => h) hS (fun w' h => by simp [go_sem, hqn, hqi]) ?_
              simp only [List.setIfInBounds_toArray, List.set_cons_succ, List.set_cons_zero]
              refine wh_takeD 9 66 (.int .u64 (v : Nat)) rfl rfl rfl (by kernel_rfl) (by kernel_rfl) (by kernel_rfl) (fun _ _ _ _ h => h) hS (fun w' h => by have k1 := h.2.2; simp [go_sem, k1]) ?_
              simp only [List.setIfInBounds_toArray, List.set_cons_succ, List.set_cons_zero]
              refine wh_takeD 10 67 (.int .i64 (IntKind.i64.wrap (v : Nat))) rfl rfl rfl (by kernel_rfl) (by kernel_rfl) (by kernel_rfl) (fun _ _ _ _ h => h) hS (fun w' h => by simp [go_sem]) ?_
              simp only [List.setIfInBounds_toArray, List.set_cons_succ, List.set_cons_zero]
              refine wh_takeD 11 68 (.pointer (some ⟨g13, k, none⟩)) rfl rfl rfl (by kernel_rfl) (by kernel_rfl) (by kernel_rfl) (fun _ _ _ _ h => h) hS (fun w' h => by simp [go_sem, hk4, hki]) ?_
              simp only [List.setIfInBounds_toArray, List.set_cons_succ, List.set_cons_zero]
              refine wh_skipD 12 (w' := w7.setCell ⟨g13, k, none⟩ (.int .i64 (IntKind.i64.wrap (v : Nat)))) rfl rfl rfl (by kernel_rfl) (by simp [go_sem, b13, f13]) ⟨by rw [World.cell?_setCell_other _ _ _ _ (fun e => by injection e with e1; have := HGG.out; omega)]; exact hS.1, by rw [World.cell?_setCell_other _ _ _ _ (fun e => by injection e with e1; have := HGG.out; omega)]; exact hS.2.1, by rw [World.cell?_setCell_other _ _ _ _ (fun e => by injection e with e1; have := HGG.out; omega)]; exact hS.2.2⟩ ?_
              refine wpAnyH_done (by kernel_rfl) ?_ 0
              have ht8 := HTD.out.put (j := k) (x := .int .i64 (IntKind.i64.wrap (v : Nat))) (by have := HGG.out; omega) HGG.out.2.2.2 HOWN.out
              have h8 : RowC (w7.setCell ⟨g13, k, none⟩ (.int .i64 (IntKind.i64.wrap (v : Nat)))) g13 4 75 (fun j => .int .i64 (if j = k then IntKind.i64.wrap (v : Nat) else z j)) := rowC_to (H13D.out.set k _) (fun j hj => by
                by_cases e : j = k
                · subst e; rw [setF_same, if_pos rfl]
                · rw [setF_other _ _ e, if_neg e])
              generalize w7.setCell ⟨g13, k, none⟩ (.int .i64 (IntKind.i64.wrap (v : Nat))) = w8 at ht8 h8 ⊢
              have HT8 := Lib.hid ht8
              have H8 := Lib.hid h8
              clear ht8 h8 hS b13 f13 HTD H13D
              simp only [go_sem, List.setIfInBounds_toArray, List.set_cons_succ, List.set_cons_zero]
              go_wp2
              go_roundw
              case rel => exact ⟨k + 1, _, rfl, by omega, H8.out, HT8.out⟩
              case measure => simp [intOf]; omega
            · have dk : decide ((k : Int) < 4) = false := decide_eq_false (by omega)
              clear hk hk4 htk h13
              have hzk : g11 + 1 ≤ wk.heap.size := HTK.out.r11.lt
              have k0 : wk.cell? ⟨g13, 0, none⟩ = some (.int .i64 (z 0)) := H13.out.cell (i := 0) (by omega)
              have k1 : wk.cell? ⟨g13, 1, none⟩ = some (.int .i64 (z 1)) := H13.out.cell (i := 1) (by omega)
              have k2 : wk.cell? ⟨g13, 2, none⟩ = some (.int .i64 (z 2)) := H13.out.cell (i := 2) (by omega)
              have k3 : wk.cell? ⟨g13, 3, none⟩ = some (.int .i64 (z 3)) := H13.out.cell (i := 3) (by omega)
              obtain ⟨x, hx⟩ : ∃ x : Qd, x = ⟨z 0, z 1, z 2, z 3⟩ := ⟨_, rfl⟩
              have HX := Lib.hid hx
              clear hx
              go_upto_region 24 with (at_builtin; refine wpList_appQ rfl _ _ 37 rfl (g11 + 1) 75 (.agg #[.int .i64 0, .int .i64 0, .int .i64 0, .int .i64 0]) Tryd.underlying37 infoIds rfl _ L rfl (HTK.out.ow.alloc _) (some ⟨wk.heap.size, 0, none⟩) 1 1 [⟨z 0, z 1, z 2, z 3⟩] rfl (slQ_oneD wk ⟨z 0, z 1, z 2, z 3⟩) (by simp) (by rw [HLL.out]; omega) (by simp; omega) ?_; intro v' w7 hown' hgrow _; (have HW := Lib.hid hown'); (have HG := Lib.hid hgrow); clear hown' hgrow)
              have htw : OdT wr w7 g11 (fun j => .int .i64 (anT (tBit b) (3 - j) i : Nat)) v' (L ++ [x]) := HTK.out.step (((Below.refl (g11 + 1) wk).alloc hzk _).grown HG.out (by simp; omega) (fun q e => (HTK.out.ow.lt q e).1)) (by rw [HX.out]; exact HW.out)
              have HTW := Lib.hid htw
              clear htw k0 k1 k2 k3 hzk dk HW HG HTK H13 HOWN
              go_wp2_with fail
              go_loopw [15, 16] (fun kv dv W => ∃ (k : Nat) (av : Nat → Value), kv = .int .i64 (k : Nat) ∧ k ≤ 3 ∧ dv = .int .i64 (anT (tBit b) (3 - k) i : Nat) ∧ mvT (tBit b) (3 - k) i = true ∧ OdT wr W g11 av v' (L ++ [x]) ∧ ∀ j, j < 3 → av j = .int .i64 ((if k ≤ j then anT (tBit b) (3 - j) (i + 1) else anT (tBit b) (3 - j) i : Nat))) (fun kv _ _ => (intOf kv).toNat)
              case atStart => exact ⟨3, _, rfl, by omega, rfl, rfl, HTW.out, fun j hj => by rw [if_neg (by omega)]⟩
              case round =>
                rename World => wl
                obtain ⟨k, av, rfl, hk, rfl, hmv, htl, hal⟩ := hrel
                have HTL := Lib.hid htl
                have HAL := Lib.hid hal
                have HMV := Lib.hid hmv
                -- the round is over
                have hdone : (k = 0 ∨ tBit b k (anT (tBit b) (3 - k) i) = false) → ∀ j, j < 3 → av j = .int .i64 (anT (tBit b) (3 - j) (i + 1) : Nat) := fun hh j hj => by
                  rw [HAL.out j hj]
                  by_cases hkj : k ≤ j
                  · rw [if_pos hkj]
                  · rw [if_neg hkj]
                    have hb : tBit b k (anT (tBit b) (3 - k) i) = false := hh.resolve_left (by omega)
                    have h1 : mvT (tBit b) (3 - k + 1) i = false := by
                      simp only [mvT]
                      rw [show 3 - (3 - k) = k by omega, hb, Bool.and_false]
                    have h2 := mv_le h1 (k - 1 - j)
                    rw [show 3 - k + 1 + (k - 1 - j) = 3 - j by omega] at h2
                    rw [an_succ, h2]
                    rfl
                by_cases hk0 : 0 < k
                · obtain ⟨q, hq⟩ : ∃ q, q = anT (tBit b) (3 - k) i := ⟨_, rfl⟩
                  have hqn : q < tN b k := by
                    have := an_lt HT.out (t := i) (by rw [← HN.out]; exact hin) (m := 3 - k) (by omega)
                    rw [show 3 - (3 - k) = k by omega] at this
                    rw [hq]; exact this
                  have HOI := HO.out.below htl.bl
                  obtain ⟨hll, hcp, hcm, gn, hna, hcn, _⟩ := HOI.bit (by omega) hk0 hqn
                  have co := HOI.odd (k := k) (by omega)
                  rw [hna, hll] at co
                  rw [← hq] at hdone ⊢
                  generalize X.lc k = cc at hcp hcm co
                  have hqi : ¬ (tN b k : Int) ≤ (q : Int) := by omega
                  have hki : ¬ (4 : Int) ≤ (k : Int) := by omega
                  have hk4 : k < 4 := by omega
                  have dk : decide ((0 : Int) < (k : Int)) = true := decide_eq_true (by omega)
                  have dk' : decide (0 < k) = true := decide_eq_true hk0
                  by_cases hb : tBit b k q = true
                  · obtain ⟨k1, hk1⟩ : ∃ k1, k = k1 + 1 := ⟨k - 1, by omega⟩
                    obtain ⟨a1, ha1⟩ : ∃ a1, a1 = anT (tBit b) (3 - k1) i := ⟨_, rfl⟩
                    obtain ⟨a2, ha2⟩ : ∃ a2, a2 = a1 + 1 := ⟨_, rfl⟩
                    have hal1 : a1 < 1048576 := by
                      have := an_lt HT.out (t := i) (by rw [← HN.out]; exact hin) (m := 3 - k1) (by omega)
                      rw [show 3 - (3 - k1) = k1 by omega, ← ha1] at this
                      have := (HC.out k1 (by omega)).le
                      omega
                    have hav1 : av k1 = .int .i64 (a1 : Nat) := by rw [HAL.out k1 (by omega), if_neg (by omega), ha1]
                    have c1 : wl.cell? ⟨g11, k1, none⟩ = some (.int .i64 (a1 : Nat)) := by rw [← hav1]; exact HTL.out.r11.cell (by omega)
                    have f1 : wl.frozen? ⟨g11, k1, none⟩ = false := HTL.out.r11.frozen k1
                    have hm1 : mvT (tBit b) (3 - k1) i = true := by
                      rw [show 3 - k1 = 3 - k + 1 by omega]
                      simp only [mvT]
                      rw [HMV.out, ← hq, show 3 - (3 - k) = k by omega, hb]; rfl
                    have hs1 : anT (tBit b) (3 - k1) (i + 1) = a2 := by rw [an_succ, if_pos hm1, ← ha1, ha2]
                    have hi1 : (k : Int) - 1 = (k1 : Int) := by omega
                    have hw1 : IntKind.i64.wrap (k1 : Int) = (k1 : Int) := by rw [IntKind.wrap_i64]; omega
                    have hi2 : (a1 : Int) + 1 = (a2 : Int) := by omega
                    have hw2 : IntKind.i64.wrap (a2 : Int) = (a2 : Int) := by rw [IntKind.wrap_i64]; omega
                    have hk14 : k1 < 4 := by omega
                    have hk1i : ¬ (4 : Int) ≤ (k1 : Int) := by omega
                    have hal8 : ∀ j, j < 3 → setF av k1 (.int .i64 (a2 : Nat)) j = .int .i64 ((if k1 ≤ j then anT (tBit b) (3 - j) (i + 1) else anT (tBit b) (3 - j) i : Nat)) := fun j hj => by
                      by_cases e : j = k1
                      · subst e; rw [setF_same, if_pos (Nat.le_refl _), hs1]
                      · rw [setF_other _ _ e, HAL.out j hj]
                        by_cases e2 : k ≤ j
                        · rw [if_pos e2, if_pos (by omega)]
                        · rw [if_neg e2, if_neg (by omega)]
                    have HT8 := Lib.hid (HTL.out.set k1 (.int .i64 (a2 : Nat)))
                    have HAL8 := Lib.hid hal8
                    have HM1 := Lib.hid hm1
                    have HA1 := Lib.hid ha1
                    have HK1 := Lib.hid (show k1 ≤ 3 ∧ k = k1 + 1 by omega)
                    rw [hb] at hcn
                    clear hdone htl hal hmv HOI hna hll hq ha1 ha2 hav1 hm1 hs1 hal8 hk1 hal1 hb
                    go_wp2_with fail
                    go_roundw
                    case rel => exact ⟨k1, setF av k1 (.int .i64 (a2 : Nat)), rfl, HK1.out.1, by rw [HA1.out], HM1.out, HT8.out, HAL8.out⟩
                    case measure => simp [intOf]; have := HK1.out; omega
                  · have hb' : tBit b k q = false := by simpa using hb
                    rw [hb'] at hcn
                    have hfin := hdone (.inr hb')
                    have HFIN := Lib.hid hfin
                    clear hdone hfin htl hal hmv HOI hna hll hq hb hb'
                    go_wp2_with fail
                    go_roundw
                    case rel => exact ⟨i + 1, av, L ++ [x], by go_num, by omega, by simp [HLL.out], HTL.out, HFIN.out⟩
                    case measure => simp [intOf]; omega
                · obtain rfl : k = 0 := by omega
                  have hfin := hdone (.inl rfl)
                  have HFIN := Lib.hid hfin
                  have dk : decide ((0 : Int) < ((0 : Nat) : Int)) = false := by decide
                  clear hdone hfin hk hk0 htl hal hmv
                  go_wp2_with fail
                  go_roundw
                  case rel => exact ⟨i + 1, av, L ++ [x], by go_num, by omega, by simp [HLL.out], HTL.out, HFIN.out⟩
                  case measure => simp [intOf]; omega
        · have dnn : decide ((i : Int) < (n : Int)) = false := decide_eq_false (by omega)
          have HR3 := Lib.hid HOI.r3
          have hbl := HO.out.bl.trans (ht.bl.mono HO.out.bl.size)
          obtain ⟨n1, n2⟩ := od_fault 0 0 HOI.r3 hbl HM3.out
          have HN1 := Lib.hid n1
          have HN2 := Lib.hid n2
          have HEV := Lib.hid (op_zero HQ.out.1)
          have dnn2 : decide (i < n) = false := decide_eq_false hin
          have dnn3 : ¬ (i : Int) < (n : Int) := by omega
          clear ht hat hL HOI hbl n1 n2
          go_wp2_with (refine wpList_store_row rfl 33 _ _ rfl g3 #[.int .i64 0, .int .i64 0] rfl rfl _ _ HR3.out HI2.out rfl (by simp [Value.oneCell']) ?_)
          refine bodyPost_ret (results_tcO rfl _ _ g3 _ _ _ _ rfl HN1.out Tryd.underlying33 rfl HI2.out) rfl ⟨u10, xs, ys, HQ.out.fin, ?_, HN2.out⟩
          rw [HEV.out]; rfl
end Go.Proofs.YtgajpekolamjbaaDoor
/- TreeOpens: View and Open of any bytes: what the document's say, faults and all. -/
namespace Go.Proofs.YtgajpekolamjbaaDoor
open Go Go.RowKit Go.Tk
theorem wq_valG {P : Program} {ops : Array Oper} {C : World → Prop} {Q : Act → Prop} {o : Oper} {rest : List Oper} {a : Act} (v : Value) (hg : Region.wanted o (yielded ops a.tmps) = true) (h : ∀ w, C w → (execOp a.eval o).run P w = .ok (.value v) w) (hk : wpQuiet P ops C Q rest (a.put o.dst v)) : wpQuiet P ops C Q (o :: rest) a := by
  show if Region.wanted o (yielded ops a.tmps) then o.quiet P a C (wpQuiet P ops C Q rest) else wpQuiet P ops C Q rest (a.put o.dst undef)
  rw [if_pos hg]
  exact ⟨v, fun w hw => by unfold Oper.quietAt; rw [h w hw]; exact ⟨rfl, rfl⟩, hk⟩
theorem wq_callG {P : Program} {ops : Array Oper} {C : World → Prop} {Q : Act → Prop} {o : Oper} {rest : List Oper} {a : Act} (v : Value) (f : FuncId) (args : Array Value) (hg : Region.wanted o (yielded ops a.tmps) = true) (he : ∀ w, (execOp a.eval o).run P w = .ok (.enter f args) w) (hc : ∀ w, C w → Calls P f args w fun e w' => e = .returned v ∧ C w')
    (hk : wpQuiet P ops C Q rest (a.put o.dst v)) : wpQuiet P ops C Q (o :: rest) a := by
  show if Region.wanted o (yielded ops a.tmps) then o.quiet P a C (wpQuiet P ops C Q rest) else wpQuiet P ops C Q rest (a.put o.dst undef)
  rw [if_pos hg]
  exact ⟨v, fun w hw => by unfold Oper.quietAt; rw [he w]; exact ⟨rfl, hc w hw⟩, hk⟩
theorem flt_fields : Tryd.prog.underlying 33 = some (.struct (Tryd.prog.fieldsOf 33)) := by kernel_rfl
theorem flt_stood : Tryd.prog.stoodInHeld 33 = false := by kernel_rfl
theorem flt_guard : Tryd.prog.eqGuardType Tryd.prog.depth 33 = false := by kernel_rfl
theorem flt_eqI (x y : Int) (w : World) : (Op.equalIn 10000 33 (.agg #[.int .i64 x, .int .i64 y]) (.agg #[.int .i64 x, .int .i64 y])).run Tryd.prog w = .ok true w := by
  rw [run_equalIn_agg w 9999 _ _ _ flt_fields flt_stood]
  unfold Program.fieldsOf
  rw [Tryd.underlying33]
  simp [go_sem, Op.eqFields, part]
theorem flt_eql (x y : Int) (w : World) : (binOp .eql 33 (.agg #[.int .i64 x, .int .i64 y]) (.agg #[.int .i64 x, .int .i64 y])).run Tryd.prog w = .ok (.bool true) w := by
  rw [run_eql_struct, flt_eqI]; rfl
theorem flt_neq (x y : Int) (w : World) : (binOp .neq 33 (.agg #[.int .i64 x, .int .i64 y]) (.agg #[.int .i64 x, .int .i64 y])).run Tryd.prog w = .ok (.bool false) w := by
  rw [run_neq_struct, flt_eqI]; rfl
theorem flt_guarded (op : BinOp) (x y : Operand) (p q : Array Value) (w : World) : (eqGuard op 33 x y (.agg p) (.agg q)).run Tryd.prog w = .ok () w := run_eqGuard_agg w op _ x y p q flt_guard
theorem fault_ev (w : World) (v : Value) (x y : Int) (hg : HandleMet w) (h : EV w v x y) :
    Calls Tryd.prog 7 #[v] w fun e w' => e = .returned (.agg #[.int .i64 x, .int .i64 y]) ∧ Below w.heap.size w w' := by
  rcases h with ⟨rfl, rfl, rfl⟩ | ⟨b, _, rfl, h2⟩
  · exact fault_nil w
  · exact fault_err x y b w hg h2
theorem own_slT {w : World} {g n : Nat} {z : List Int} (h : RowI .u8 5 w g (z ++ [171, 172])) (hn : z.length = n) (hb : n ≤ 140737488351232) : SlI .u8 w (some ⟨g, 0, none⟩) n (n + 2) z := by
  have := h.sl n (n + 2) (by simp; omega) (by simp; omega) (by omega)
  have e : (z ++ [171, 172]).take n = z := by subst hn; simp
  rw [e] at this
  exact this
theorem vw_zero {b : List UInt8} (h : (vwE b).1 = 0) : vwE b = (0, 0) := by
  unfold vwE at h ⊢
  by_cases h1 : (lvE b 4).1 ≠ 0
  · rw [if_pos h1] at h; exact absurd h h1
  rw [if_neg h1] at h ⊢
  by_cases h2 : tA b 4 < b.length
  · rw [if_pos h2] at h; cases h
  · rw [if_neg h2]
/-- What the program's View, or Open, hands back: a tree and no error, or none and the error of x and y. -/
def TEv (w : World) (x y : Int) (e : Ending) (w' : World) : Prop := ∃ p v, e = .returned (.tuple #[.pointer p, v]) ∧ EV w' v x y ∧ ((y ≠ 0 ∧ p = none) ∨ (y = 0 ∧ ∃ gv, p = some ⟨gv, 0, none⟩)) ∧ Below w.heap.size w w'
theorem tev_of {w w' : World} {b : List UInt8} {a : Option Addr} {cap : Nat} {er : Int × Nat} {e : Ending} (hz : er.1 = 0 → er = (0, 0)) (h : OpenT w b a cap er e w') : TEv w (er.2 : Nat) er.1 e w' := by
  obtain ⟨hb, h1⟩ := h
  rcases h1 with ⟨h2, v, rfl, hv⟩ | ⟨h2, gd, vp, _, rfl, hd⟩
  · exact ⟨_, _, rfl, hv, .inl ⟨h2, rfl⟩, hb⟩
  · exact ⟨_, _, rfl, .inl ⟨rfl, by rw [hz h2]; rfl, h2⟩, .inr ⟨h2, gd, rfl⟩, hb⟩
/-- What stands while the answers are compared. -/
structure OpC (w0 : World) (v : Value) (x y : Int) (gf g0 : Nat) (a : Option Addr) (c : Nat) (bs : List UInt8) (w : World) : Prop where
  hm : HandleMet w
  e1 : EV w v x y
  rf : w.heap[gf]? = some (.cells #[.int .i64 x, .int .i64 y] 33 (0, 0))
  ro : RowI .u8 5 w g0 (nums bs ++ [171, 172])
  sl : SlI .u8 w a bs.length c (nums bs)
  bl : Below w0.heap.size w0 w
theorem OpC.step {w0 v x y gf g0 a c bs w w'} (h : OpC w0 v x y gf g0 a c bs w) (hb : Below w.heap.size w w') : OpC w0 v x y gf g0 a c bs w' :=
  ⟨h.hm.below hb h.hm.pos, h.e1.below hb, (hb.block _ (lt_of_block h.rf)).trans h.rf, h.ro.below hb h.ro.lt, h.sl.keep hb, h.bl.trans (hb.mono h.bl.size)⟩
set_option maxRecDepth 100000 in
set_option maxHeartbeats 8000000 in
theorem opens_go (w : World) (a : Option Addr) (c : Nat) (bs : List UInt8) (h : SlI .u8 w a bs.length c (nums bs)) (ha : ∀ x, a = some x → x.block < w.heap.size) (hbl : bs.length ≤ 140737488351232) (hg : HandleMet w) :
    Calls Tryd.prog 3 #[.slice a bs.length c] w fun e w' => e = .returned (.bool true) ∧ Below w.heap.size w w' := by
  have hlen := lent18_calls w a bs.length c (nums bs) h hbl
  have H := Lib.hid h
  have HLEN := Lib.hid hlen
  have HG := Lib.hid hg
  have HI := Lib.hid Tryd.sizeFlT
  obtain ⟨x, hx⟩ : ∃ x : Int, x = ((vwE bs).2 : Nat) := ⟨_, rfl⟩
  obtain ⟨y, hy⟩ : ∃ y : Int, y = (vwE bs).1 := ⟨_, rfl⟩
  have hvw : ∀ W a' c', SlI .u8 W a' bs.length c' (nums bs) → (a' = none → c' = 0) → (∀ q, a' = some q → q.block < W.heap.size) → Calls Tryd.prog 5 #[.slice a' bs.length c'] W (TEv W x y) := fun W a' c' hs hn hq => by
    refine (tview_calls W a' c' bs hs hn hq (by omega)).mono fun e w' h1 => ?_
    have := tev_of vw_zero h1
    rw [hx, hy]; exact this
  have hrv : ∀ W, Below w.heap.size w W → Calls Tryd.prog 6 #[.slice a bs.length c] W fun e w' => ∃ z : Nat → Int, e = .returned (.tuple #[.agg #[.int .i64 (z 0), .int .i64 (z 1), .int .i64 (z 2), .int .i64 (z 3), .int .i64 (z 4), .int .i64 (z 5), .int .i64 (z 6), .int .i64 (z 7), .int .i64 (z 8), .int .i64 (z 9), .int .i64 (z 10), .int .i64 (z 11), .int .i64 (z 12)], .agg #[.int .i64 x, .int .i64 y]]) ∧ Below W.heap.size W w' := fun W hb => by
    refine (rview18_calls W a c bs (h.keep hb) (fun q hq => Nat.lt_of_lt_of_le (ha q hq) hb.size) (by omega)).mono fun e w' h1 => ?_
    obtain ⟨hb2, cs, he, hci, _⟩ := h1
    obtain ⟨z, hz⟩ := ints_of hci
    rw [row13_int hz] at he
    exact ⟨z, by rw [he, hx, hy]; rfl, hb2⟩
  have hop : ∀ W a' c', SlI .u8 W a' bs.length c' (nums bs) → (a' = none → c' = 0) → (∀ q, a' = some q → q.block < W.heap.size) → Calls Tryd.prog 8 #[.slice a' bs.length c'] W fun e w' => ∃ xs ys, opU bs xs ys ∧ TEv W ((opT bs xs ys 4).2 : Nat) (opT bs xs ys 4).1 e w' := fun W a' c' hs hn hq =>
    (topen_calls W bs a' c' hs hn hq (by omega)).mono fun e w' ⟨xs, ys, hu, h1⟩ => ⟨xs, ys, hu, tev_of op_zero h1⟩
  have hro : ∀ W, Below w.heap.size w W → Calls Tryd.prog 9 #[.slice a bs.length c] W (RdoR W bs) := fun W hb =>
    rdopen_calls W a c bs (h.keep hb) (fun q hq => Nat.lt_of_lt_of_le (ha q hq) hb.size) (by omega)
  have HVWA := Lib.hid hvw
  have HRVA := Lib.hid hrv
  have HOPA := Lib.hid hop
  have HROA := Lib.hid hro
  clear h hlen hg hx hy hop hvw hro hrv ha
  go_enter Tryd.func3, Tryd.ntmps3
  go_upto_region 2 with (go_at_call 4; (with_reducible refine HLEN.out.mono ?_); rintro e w2 ⟨rfl, hf⟩; (have HF := Lib.hid hf); clear hf)
  have ho := HF.out.row
  have hb2 := HF.out.below
  generalize hgg : w.heap.size = g0 at ho ⊢
  have HO := Lib.hid ho
  have HB2 := Lib.hid hb2
  clear ho hb2 hgg HF HLEN
  have HVW := Lib.hid (HVWA.out w2 (some ⟨g0, 0, none⟩) (bs.length + 2) (own_slT HO.out (by rw [nums_len]) hbl) (fun e => by cases e) (fun x hx => by cases hx; exact HO.out.lt))
  go_upto_region 3 with (go_at_call 5; (with_reducible refine HVW.out.mono ?_); rintro e w3 ⟨p, v, rfl, hev, hc, hb⟩; (have HE1 := Lib.hid hev); (have HB3 := Lib.hid (HB2.out.trans (hb.mono HB2.out.size))); (have HO3 := Lib.hid (HO.out.below hb HO.out.lt)); (have HC := Lib.hid hc); clear hev hb hc)
  clear HVW HB2 HO HVWA
  have HRV := Lib.hid (HRVA.out w3 HB3.out)
  go_upto_region 4 with (go_at_call 6; (with_reducible refine HRV.out.mono ?_); rintro e w4 ⟨z, rfl, hb⟩; (have HE2 := Lib.hid (HE1.out.below hb)); (have HB4 := Lib.hid (HB3.out.trans (hb.mono HB3.out.size))); (have HO4 := Lib.hid (HO3.out.below hb HO3.out.lt)); clear hb)
  clear HRV HB3 HO3 HE1 HRVA
  have hrg : ((w4.alloc (.cells #[.int .i64 (z 0), .int .i64 (z 1), .int .i64 (z 2), .int .i64 (z 3), .int .i64 (z 4), .int .i64 (z 5), .int .i64 (z 6), .int .i64 (z 7), .int .i64 (z 8), .int .i64 (z 9), .int .i64 (z 10), .int .i64 (z 11), .int .i64 (z 12)] 31)).alloc (.cells #[.int .i64 x, .int .i64 y] 33)).heap[w4.heap.size + 1]? = some (.cells #[.int .i64 x, .int .i64 y] 33 (0, 0)) := by
    have := heap_alloc_new (w4.alloc (.cells #[.int .i64 (z 0), .int .i64 (z 1), .int .i64 (z 2), .int .i64 (z 3), .int .i64 (z 4), .int .i64 (z 5), .int .i64 (z 6), .int .i64 (z 7), .int .i64 (z 8), .int .i64 (z 9), .int .i64 (z 10), .int .i64 (z 11), .int .i64 (z 12)] 31)) (.cells #[.int .i64 x, .int .i64 y] 33)
    simpa using this
  have hb45 : Below w4.heap.size w4 ((w4.alloc (.cells #[.int .i64 (z 0), .int .i64 (z 1), .int .i64 (z 2), .int .i64 (z 3), .int .i64 (z 4), .int .i64 (z 5), .int .i64 (z 6), .int .i64 (z 7), .int .i64 (z 8), .int .i64 (z 9), .int .i64 (z 10), .int .i64 (z 11), .int .i64 (z 12)] 31)).alloc (.cells #[.int .i64 x, .int .i64 y] 33)) := ((Below.refl _ _).alloc (Nat.le_refl _) _).alloc (by simp) _
  generalize (w4.alloc (.cells #[.int .i64 (z 0), .int .i64 (z 1), .int .i64 (z 2), .int .i64 (z 3), .int .i64 (z 4), .int .i64 (z 5), .int .i64 (z 6), .int .i64 (z 7), .int .i64 (z 8), .int .i64 (z 9), .int .i64 (z 10), .int .i64 (z 11), .int .i64 (z 12)] 31)).alloc (.cells #[.int .i64 x, .int .i64 y] 33) = w5 at hrg hb45 ⊢
  have hc5 : OpC w v x y (w4.heap.size + 1) g0 a c bs w5 := by
    have hb5 := HB4.out.trans (hb45.mono HB4.out.size)
    exact ⟨HG.out.below hb5 HG.out.pos, HE2.out.below hb45, hrg, HO4.out.below hb45 HO4.out.lt, H.out.keep hb5, hb5⟩
  generalize w4.heap.size + 1 = gf at hc5 ⊢
  clear hrg hb45 HB4 HO4 HE2 HG
  refine wp_region_quiet_all (OpC w v x y gf g0 a c bs) (by kernel_rfl) (by kernel_rfl) (hc5.step (Below.drew (Below.refl _ _))) ?_
  clear hc5
  obtain ⟨b1, hb1, hb1'⟩ : ∃ b1 : Bool, (∀ w' : World, (binOp .neq 24 (.pointer p) (.pointer none)).run Tryd.prog w' = .ok (.bool b1) w') ∧ b1 = (y == 0) := by
    rcases HC.out with ⟨h1, rfl⟩ | ⟨h1, gv, rfl⟩
    · exact ⟨false, fun w' => by kernel_rfl, by simp [h1]⟩
    · exact ⟨true, fun w' => by kernel_rfl, by simp [h1]⟩
  clear HC
  refine wq_val (v) rfl (fun w' h => by simp [go_sem]) ?_
  simp only [go_sem, List.setIfInBounds_toArray, List.set_cons_succ, List.set_cons_zero]
  refine wq_call (.agg #[.int .i64 x, .int .i64 y]) _ _ rfl (fun w' => by simp [go_sem]) (fun w' h => (fault_ev w' v _ _ h.hm h.e1).mono fun _ w'' ⟨h1, h2⟩ => ⟨h1, h.step h2⟩) ?_
  simp only [go_sem, List.setIfInBounds_toArray, List.set_cons_succ, List.set_cons_zero]
  refine wq_row rfl 33 _ rfl gf rfl _ #[.int .i64 x, .int .i64 y] _ _ (fun w' h => h.rf) Tryd.underlying33 rfl HI.out ?_
  simp only [go_sem, List.setIfInBounds_toArray, List.set_cons_succ, List.set_cons_zero]
  refine wq_val (.bool false) rfl (fun w' h => by have h1 := flt_neq x y w'; have h2 := flt_guarded; simp [go_sem, h1, h2]) ?_
  simp only [go_sem, List.setIfInBounds_toArray, List.set_cons_succ, List.set_cons_zero]
  refine wq_val (.bool false) rfl (fun w' h => by simp [go_sem]) ?_
  simp only [go_sem, List.setIfInBounds_toArray, List.set_cons_succ, List.set_cons_zero]
  refine wq_valG (.pointer p) (by simp [Region.wanted, yielded]) (fun w' h => by simp [go_sem]) ?_
  simp only [go_sem, List.setIfInBounds_toArray, List.set_cons_succ, List.set_cons_zero]
  refine wq_valG (.bool b1) (by simp [Region.wanted, yielded]) (fun w' h => by have h1 := hb1 w'; simp [go_sem] at h1 ⊢; first | exact h1 | simp [h1]) ?_
  simp only [go_sem, List.setIfInBounds_toArray, List.set_cons_succ, List.set_cons_zero]
  refine wq_valG (.pointer (some ⟨gf, 1, none⟩)) (by simp [Region.wanted, yielded]) (fun w' h => by simp [go_sem]) ?_
  simp only [go_sem, List.setIfInBounds_toArray, List.set_cons_succ, List.set_cons_zero]
  refine wq_valG (.int .i64 y) (by simp [Region.wanted, yielded]) (fun w' h => by have k1 : w'.cell? ⟨gf, 1, none⟩ = some (.int .i64 y) := cell_of_row w' gf 1 _ _ _ h.rf; simp [go_sem, k1]) ?_
  simp only [go_sem, List.setIfInBounds_toArray, List.set_cons_succ, List.set_cons_zero]
  refine wq_valG (.bool b1) (by simp [Region.wanted, yielded]) (fun w' h => by rw [hb1']; simp [go_sem]) ?_
  simp only [go_sem, List.setIfInBounds_toArray, List.set_cons_succ, List.set_cons_zero]
  refine wq_valG (.bool false) (by simp [Region.wanted, yielded]) (fun w' h => by simp [go_sem]) ?_
  simp only [go_sem, List.setIfInBounds_toArray, List.set_cons_succ, List.set_cons_zero]
  refine wq_val (.bool false) rfl (fun w' h => by simp [go_sem]) ?_
  simp only [go_sem, List.setIfInBounds_toArray, List.set_cons_succ, List.set_cons_zero]
  refine wpQuiet_nil ?_
  rintro w6 h6
  have H6 := Lib.hid h6
  clear h6 hb1 hb1'
  have HOP := Lib.hid (HOPA.out w6 (some ⟨g0, 0, none⟩) (bs.length + 2) (own_slT H6.out.ro (by rw [nums_len]) hbl) (fun e => by cases e) (fun x hx => by cases hx; exact H6.out.ro.lt))
  clear HOPA
  go_upto_region 7 with (go_at_call 8; (with_reducible refine HOP.out.mono ?_); rintro e w7 ⟨xs, ys, hu, p2, v2, rfl, hev, hc, hb⟩; (have HU := Lib.hid hu); (have HE1 := Lib.hid hev); (have H7 := Lib.hid (H6.out.step hb)); (have HC := Lib.hid hc); clear hev hb hc hu)
  clear HOP H6
  obtain ⟨x2, hx2⟩ : ∃ x : Int, x = ((opT bs xs ys 4).2 : Nat) := ⟨_, rfl⟩
  obtain ⟨y2, hy2⟩ : ∃ y : Int, y = (opT bs xs ys 4).1 := ⟨_, rfl⟩
  have hE := HE1.out
  have hC := HC.out
  rw [← hx2, ← hy2] at hE
  rw [← hy2] at hC
  clear HE1 HC
  have HE1 := Lib.hid hE
  have HC := Lib.hid hC
  have hro2 : Calls Tryd.prog 9 #[.slice a bs.length c] w7 fun e w' => ∃ vl, e = .returned (.tuple #[vl, .agg #[.int .i64 x2, .int .i64 y2]]) ∧ Below w7.heap.size w7 w' := (HROA.out w7 H7.out.bl).mono fun e w' h1 => by
    obtain ⟨vl, xs', ys', hq, he, hb⟩ := h1
    rw [← op_same HU.out hq] at he
    exact ⟨vl, by rw [he, hx2, hy2]; rfl, hb⟩
  have HRO := Lib.hid hro2
  clear hro2 hE hC hx2 hy2 HU HROA
  go_upto_region 8 with (go_at_call 9; (with_reducible refine HRO.out.mono ?_); rintro e w8 ⟨vl, rfl, hb⟩; (have HE2 := Lib.hid (HE1.out.below hb)); (have H8 := Lib.hid (H7.out.step hb)); clear hb)
  clear HRO HE1 H7
  have hrf : (w8.alloc (.cells #[.int .i64 x2, .int .i64 y2] 33)).heap[w8.heap.size]? = some (.cells #[.int .i64 x2, .int .i64 y2] 33 (0, 0)) := heap_alloc_new w8 _
  have hb89 : Below w8.heap.size w8 (w8.alloc (.cells #[.int .i64 x2, .int .i64 y2] 33)) := (Below.refl _ _).alloc (Nat.le_refl _) _
  generalize w8.alloc (.cells #[.int .i64 x2, .int .i64 y2] 33) = w9 at hrf hb89 ⊢
  have hc9 : OpC w v2 x2 y2 w8.heap.size g0 a c bs w9 := by
    have h9 := H8.out.step hb89
    exact ⟨h9.hm, HE2.out.below hb89, hrf, h9.ro, h9.sl, h9.bl⟩
  generalize w8.heap.size = gg at hc9 ⊢
  clear hrf hb89 H8 HE2
  refine wp_region_quiet_all (OpC w v2 x2 y2 gg g0 a c bs) (by kernel_rfl) (by kernel_rfl) (hc9.step (Below.drew (Below.refl _ _))) ?_
  clear hc9
  obtain ⟨b2, hb2, hb2'⟩ : ∃ b2 : Bool, (∀ w' : World, (binOp .neq 24 (.pointer p2) (.pointer none)).run Tryd.prog w' = .ok (.bool b2) w') ∧ b2 = (y2 == 0) := by
    rcases HC.out with ⟨h1, rfl⟩ | ⟨h1, gv, rfl⟩
    · exact ⟨false, fun w' => by kernel_rfl, by simp [h1]⟩
    · exact ⟨true, fun w' => by kernel_rfl, by simp [h1]⟩
  clear HC
  refine wq_val (v2) rfl (fun w' h => by simp [go_sem]) ?_
  simp only [go_sem, List.setIfInBounds_toArray, List.set_cons_succ, List.set_cons_zero]
  refine wq_call (.agg #[.int .i64 x2, .int .i64 y2]) _ _ rfl (fun w' => by simp [go_sem]) (fun w' h => (fault_ev w' v2 _ _ h.hm h.e1).mono fun _ w'' ⟨h1, h2⟩ => ⟨h1, h.step h2⟩) ?_
  simp only [go_sem, List.setIfInBounds_toArray, List.set_cons_succ, List.set_cons_zero]
  refine wq_row rfl 33 _ rfl gg rfl _ #[.int .i64 x2, .int .i64 y2] _ _ (fun w' h => h.rf) Tryd.underlying33 rfl HI.out ?_
  simp only [go_sem, List.setIfInBounds_toArray, List.set_cons_succ, List.set_cons_zero]
  refine wq_val (.bool true) rfl (fun w' h => by have h1 := flt_eql x2 y2 w'; have h2 := flt_guarded; simp [go_sem, h1, h2]) ?_
  simp only [go_sem, List.setIfInBounds_toArray, List.set_cons_succ, List.set_cons_zero]
  refine wq_val (.bool true) rfl (fun w' h => by simp [go_sem]) ?_
  simp only [go_sem, List.setIfInBounds_toArray, List.set_cons_succ, List.set_cons_zero]
  refine wq_valG (.pointer p2) (by simp [Region.wanted, yielded]) (fun w' h => by simp [go_sem]) ?_
  simp only [go_sem, List.setIfInBounds_toArray, List.set_cons_succ, List.set_cons_zero]
  refine wq_valG (.bool b2) (by simp [Region.wanted, yielded]) (fun w' h => by have h1 := hb2 w'; simp [go_sem] at h1 ⊢; first | exact h1 | simp [h1]) ?_
  simp only [go_sem, List.setIfInBounds_toArray, List.set_cons_succ, List.set_cons_zero]
  refine wq_valG (.pointer (some ⟨gg, 1, none⟩)) (by simp [Region.wanted, yielded]) (fun w' h => by simp [go_sem]) ?_
  simp only [go_sem, List.setIfInBounds_toArray, List.set_cons_succ, List.set_cons_zero]
  refine wq_valG (.int .i64 y2) (by simp [Region.wanted, yielded]) (fun w' h => by have k1 : w'.cell? ⟨gg, 1, none⟩ = some (.int .i64 y2) := cell_of_row w' gg 1 _ _ _ h.rf; simp [go_sem, k1]) ?_
  simp only [go_sem, List.setIfInBounds_toArray, List.set_cons_succ, List.set_cons_zero]
  refine wq_valG (.bool b2) (by simp [Region.wanted, yielded]) (fun w' h => by rw [hb2']; simp [go_sem]) ?_
  simp only [go_sem, List.setIfInBounds_toArray, List.set_cons_succ, List.set_cons_zero]
  refine wq_valG (.bool true) (by simp [Region.wanted, yielded]) (fun w' h => by simp [go_sem]) ?_
  simp only [go_sem, List.setIfInBounds_toArray, List.set_cons_succ, List.set_cons_zero]
  refine wq_val (.bool true) rfl (fun w' h => by simp [go_sem]) ?_
  simp only [go_sem, List.setIfInBounds_toArray, List.set_cons_succ, List.set_cons_zero]
  refine wq_val (.bool true) rfl (fun w' h => by simp [go_sem]) ?_
  simp only [go_sem, List.setIfInBounds_toArray, List.set_cons_succ, List.set_cons_zero]
  refine wq_valG (.slice (some ⟨g0, 0, none⟩) bs.length (bs.length + 2)) (by simp [Region.wanted, yielded]) (fun w' h => by simp [go_sem]) ?_
  simp only [go_sem, List.setIfInBounds_toArray, List.set_cons_succ, List.set_cons_zero]
  refine wq_valG (.slice a bs.length c) (by simp [Region.wanted, yielded]) (fun w' h => by simp [go_sem]) ?_
  simp only [go_sem, List.setIfInBounds_toArray, List.set_cons_succ, List.set_cons_zero]
  refine wq_callG (.bool true) _ _ (by simp [Region.wanted, yielded]) (fun w' => by simp [go_sem]) (fun w' h => (back18_calls w' g0 a bs.length c (nums bs) h.ro h.sl hbl).mono fun _ w'' ⟨h1, q, h2⟩ => ⟨h1, by rw [h2]; exact h.step (below_drewN (Below.refl _ _) q)⟩) ?_
  simp only [go_sem, List.setIfInBounds_toArray, List.set_cons_succ, List.set_cons_zero]
  refine wq_val (.bool true) rfl (fun w' h => by simp [go_sem]) ?_
  simp only [go_sem, List.setIfInBounds_toArray, List.set_cons_succ, List.set_cons_zero]
  refine wq_val (.bool true) rfl (fun w' h => by simp [go_sem]) ?_
  simp only [go_sem, List.setIfInBounds_toArray, List.set_cons_succ, List.set_cons_zero]
  refine wpQuiet_nil ?_
  rintro wz hz
  go_wp2_with fail
  go_ret
  exact ⟨rfl, hz.bl⟩
end Go.Proofs.YtgajpekolamjbaaDoor
/- TreeOpens at what comes in. -/
namespace Go.Tk
open Go Go.RowKit
def bytesU (zs : List Int) : List UInt8 := zs.map fun z => UInt8.ofNat z.toNat
theorem nums_bytesU {zs : List Int} (h : ∀ z ∈ zs, 0 ≤ z ∧ z < 256) : nums (bytesU zs) = zs := by
  unfold nums bytesU
  rw [List.map_map]
  conv => rhs; rw [← List.map_id zs]
  apply List.map_congr_left
  intro z hz
  have := h z hz
  simp
  omega
end Go.Tk
namespace Go.Proofs.YtgajpekolamjbaaDoor
open Go.RowKit Go.Tk
theorem opens_in (w : World) (a : Option Addr) (n c : Nat) (z : List Int) (h : IsRow .u8 w a n c z) (hb : c * 1 ≤ 140737488351232) (ha : ∀ x, a = some x → x.block < w.heap.size) (hg : HandleMet w) :
    Calls Tryd.prog 3 #[.slice a n c] w fun e w' => e = .returned (.bool true) ∧ Below w.heap.size w w' := by
  obtain ⟨hsl, hnil, hwf⟩ := h.sl
  have hnum : nums (bytesU (z.take n)) = z.take n := nums_bytesU (fun x hx => wf_u8 (hwf x hx))
  rw [← hnum] at hsl
  have hle := hsl.le
  have hbn : (bytesU (z.take n)).length = n := by have := hsl.len; rwa [nums_len] at this
  generalize bytesU (z.take n) = bs at hsl hbn
  subst hbn
  exact opens_go w a c bs hsl ha (by omega) hg
end Go.Proofs.YtgajpekolamjbaaDoor
