/- TrG TrA, laid as one. -/
import Derived.Test.YtgajpekolamjbaaDoorCpK
import Derived.Test.YtgajpekolamjbaaDoorRkH
import Derived.Deep.MidRow
import Derived.Test.YtgajpekolamjbaaDoorTrP
import Derived.Test.YtgajpekolamjbaaDoorQu
import Derived.Test.YtgajpekolamjbaaDoorOpen2
import Derived.Test.YtgajpekolamjbaaDoorReg
import Derived.Test.YtgajpekolamjbaaDoorTypes
import Derived.Test.YtgajpekolamjbaaDoorRkP
import Derived.Test.YtgajpekolamjbaaDoorShelf
import Derived.BigQuiet
import Derived.Deep.QuietTactic
set_option linter.unusedVariables false
set_option linter.unusedSimpArgs false
/- Eight slices of the call's own in one block. Plain. -/
namespace Go.Tk
open Go Go.RowKit
def uPd {α : Type} (f : Nat → α) (i : Nat) (x : α) : Nat → α := fun k => if k = i then x else f k
theorem uPd_same {α : Type} (f : Nat → α) (i : Nat) (x : α) : uPd f i x i = x := by simp [uPd]
theorem uPd_other {α : Type} (f : Nat → α) {i k : Nat} (x : α) (h : k ≠ i) : uPd f i x k = f k := by simp [uPd, h]
/-- Eight slices of the call's own lie in block b. -/
structure R8 (n0 : Nat) (T : TypeId) (E : Nat → TypeId) (w : World) (b : Nat) (vs : Nat → Value) (C : Nat → List Value) : Prop where
  blk : w.heap[b]? = some (.cells #[vs 0, vs 1, vs 2, vs 3, vs 4, vs 5, vs 6, vs 7] T (0, 0))
  new : n0 ≤ b
  own : ∀ i, i < 8 → w.ownsRow n0 (E i) 1 (vs i) (C i).length (C i)
  ap : ∀ i j, i < 8 → j < 8 → i ≠ j → Apart (vs i) (vs j)
  ne : ∀ i, i < 8 → (vs i).ownBlock ≠ some b
theorem eight {i : Nat} (h : i < 8) : i = 0 ∨ i = 1 ∨ i = 2 ∨ i = 3 ∨ i = 4 ∨ i = 5 ∨ i = 6 ∨ i = 7 := by omega
theorem eight_get (vs : Nat → Value) {i : Nat} (h : i < 8) : (#[vs 0, vs 1, vs 2, vs 3, vs 4, vs 5, vs 6, vs 7] : Array Value)[i]? = some (vs i) := by
  rcases eight h with rfl | rfl | rfl | rfl | rfl | rfl | rfl | rfl <;> rfl
theorem eight_set (vs : Nat → Value) {i : Nat} (h : i < 8) (v : Value) : (#[vs 0, vs 1, vs 2, vs 3, vs 4, vs 5, vs 6, vs 7] : Array Value).setIfInBounds i v = #[uPd vs i v 0, uPd vs i v 1, uPd vs i v 2, uPd vs i v 3, uPd vs i v 4, uPd vs i v 5, uPd vs i v 6, uPd vs i v 7] := by
  rcases eight h with rfl | rfl | rfl | rfl | rfl | rfl | rfl | rfl <;> rfl
section
variable {n0 : Nat} {T : TypeId} {E : Nat → TypeId} {w : World} {b : Nat} {vs : Nat → Value} {C : Nat → List Value}
theorem R8.lt (h : R8 n0 T E w b vs C) : b < w.heap.size := (Array.getElem?_eq_some_iff.1 h.blk).1
theorem R8.cell (h : R8 n0 T E w b vs C) {i : Nat} (hi : i < 8) : w.cell? ⟨b, i, none⟩ = some (vs i) := by
  rw [cell_of_row w b i _ _ _ h.blk, eight_get vs hi]
theorem R8.frozen (h : R8 n0 T E w b vs C) (i : Nat) : w.frozen? ⟨b, i, none⟩ = false := frozen_of_row w b i _ _ h.blk
theorem ownsRow_kept2 {S : Nat → Prop} {w w' : World} {base : Nat} {e : TypeId} {size : Nat} {v : Value} {n : Nat} {xs : List Value} (h : w.ownsRow base e size v n xs) (hk : Kept S w w') (hv : ∀ g, v.ownBlock = some g → ¬ S g) : w'.ownsRow base e size v n xs := by
  refine ⟨h.1, ?_⟩
  rcases h.2 with hn | ⟨g, cap, cur, rfl, hbg, hgg, rest⟩
  · exact .inl hn
  · exact .inr ⟨g, cap, cur, rfl, hbg, (hk.block g (Array.getElem?_eq_some_iff.1 hgg).1 (hv g rfl)).trans hgg, rest⟩
theorem R8.own_lt (h : R8 n0 T E w b vs C) {i : Nat} (hi : i < 8) : ∀ g, (vs i).ownBlock = some g → n0 ≤ g ∧ g < w.heap.size := World.ownsRow.lt (h.own i hi)
theorem R8.kept {S : Nat → Prop} {w' : World} (h : R8 n0 T E w b vs C) (hk : Kept S w w') (hb : ¬ S b) (hv : ∀ i, i < 8 → ∀ g, (vs i).ownBlock = some g → ¬ S g) : R8 n0 T E w' b vs C :=
  ⟨(hk.block b h.lt hb).trans h.blk, h.new, fun i hi => ownsRow_kept2 (h.own i hi) hk (hv i hi), h.ap, h.ne⟩
theorem R8.below {w' : World} (h : R8 n0 T E w b vs C) (hb : Below w.heap.size w w') : R8 n0 T E w' b vs C :=
  h.kept (Kept.none_of_below hb) (fun h => h) (fun _ _ _ _ h => h)
theorem R8.drewN (h : R8 n0 T E w b vs C) (m : Nat) : R8 n0 T E (w.drewN m) b vs C := ⟨h.blk, h.new, h.own, h.ap, h.ne⟩
theorem R8.alloc (h : R8 n0 T E w b vs C) (o : Obj) : R8 n0 T E (w.alloc o) b vs C := h.below ((Below.refl _ w).alloc (Nat.le_refl _) o)
/-- One slice is appended to, and stored. -/
theorem R8.app (h : R8 n0 T E w b vs C) {i : Nat} (hi : i < 8) {w1 : World} {v' : Value} {cs : List Value} (ho : w1.ownsRow n0 (E i) 1 v' cs.length cs) (hg : w.grownBy w1 (vs i).ownBlock) (hs : OwnStep w (vs i) v') :
    R8 n0 T E (w1.setCell ⟨b, i, none⟩ v') b (uPd vs i v') (uPd C i cs) := by
  have hb1 : w1.heap[b]? = some (.cells #[vs 0, vs 1, vs 2, vs 3, vs 4, vs 5, vs 6, vs 7] T (0, 0)) := (hg.block b h.lt (fun e => h.ne i hi e.symm)).trans h.blk
  have hk : Kept (fun k => k = b) w1 (w1.setCell ⟨b, i, none⟩ v') := (Kept.refl (fun k => k = b) w1).setCell (p := ⟨b, i, none⟩) (.inl rfl) v'
  have hne : v'.ownBlock ≠ some b := hs.ne h.lt (h.ne i hi)
  have hstep : ∀ j, j < 8 → j ≠ i → Apart v' (vs j) := fun j hj hji g hg1 hg2 => by
    rcases hs with e | ⟨g', e', hg'⟩
    · rw [e] at hg1; exact h.ap i j hi hj (fun e => hji e.symm) g hg1 hg2
    · rw [e'] at hg1
      obtain rfl := Option.some.inj hg1
      have := (h.own_lt hj _ hg2).2
      omega
  refine ⟨by rw [heap_setCell_same w1 b i _ _ _ hb1, eight_set vs hi], h.new, fun j hj => ?_, fun j k hj hk2 hjk => ?_, fun j hj => ?_⟩
  · by_cases e : j = i
    · subst e; rw [uPd_same, uPd_same]; exact ownsRow_kept2 ho hk (fun g hg1 hg2 => hne (by rw [hg1, hg2]))
    · rw [uPd_other _ _ e, uPd_other _ _ e]
      exact ownsRow_kept2 (ownsRow_kept2 (h.own j hj) (Kept.of_grown hg) (fun g h1 h2 => h.ap j i hj hi e g h1 h2)) hk (fun g hg1 hg2 => h.ne j hj (by rw [hg1, hg2]))
  · by_cases e : j = i
    · subst e; rw [uPd_same, uPd_other _ _ (fun e => hjk e.symm)]; exact hstep k hk2 (fun e => hjk e.symm)
    · by_cases e2 : k = i
      · subst e2; rw [uPd_same, uPd_other _ _ e]; exact (hstep j hj e).symm
      · rw [uPd_other _ _ e, uPd_other _ _ e2]; exact h.ap j k hj hk2 hjk
  · by_cases e : j = i
    · subst e; rw [uPd_same]; exact hne
    · rw [uPd_other _ _ e]; exact h.ne j hj
/-- One element of one slice. -/
theorem R8.at (h : R8 n0 T E w b vs C) {i : Nat} (hi : i < 8) {k : Nat} (hk : k < (C i).length) : ∃ g c, vs i = .slice (some ⟨g, 0, none⟩) (C i).length c ∧ (C i).length ≤ c ∧ c ≤ 9223372036854775807 ∧ w.cell? ⟨g, k, none⟩ = (C i)[k]? ∧ w.frozen? ⟨g, k, none⟩ = false ∧
    (∀ x, R8 n0 T E (w.setCell ⟨g, k, none⟩ x) b vs (uPd C i ((C i).set k x))) ∧ n0 ≤ g := by
  have ho := h.own i hi
  rcases ho.2 with ⟨_, h0⟩ | ⟨g, cap, cur, hv, hb, hg, hn, hm, _⟩
  · omega
  · have ho' := ho
    rw [hv] at ho'
    refine ⟨g, cap, hv, hn, by simpa [maxLen] using hm, ?_, World.ownsRow.frozenAt ho' k, fun x => ?_, hb⟩
    · exact World.ownsRow.cellAt ho' k (by omega)
    · have hs := (World.ownsRow.stored ho' k x).1
      have hgb : g ≠ b := fun e => h.ne i hi (by rw [hv, e]; rfl)
      have hkp : Kept (fun k => k = g) w (w.setCell ⟨g, k, none⟩ x) := (Kept.refl (fun k => k = g) w).setCell (p := ⟨g, k, none⟩) (.inl rfl) x
      refine ⟨(hkp.block b h.lt (fun e => hgb e.symm)).trans h.blk, h.new, fun j hj => ?_, h.ap, h.ne⟩
      by_cases e : j = i
      · subst e; rw [uPd_same, hv]; simpa using hs
      · rw [uPd_other _ _ e]
        exact ownsRow_kept2 (h.own j hj) hkp (fun g' h1 h2 => h.ap i j hi hj (fun e2 => e e2.symm) g (by rw [hv]; rfl) (by rw [h1, h2]))
theorem R8.congr (h : R8 n0 T E w b vs C) {C' : Nat → List Value} (hc : ∀ i, i < 8 → C' i = C i) : R8 n0 T E w b vs C' :=
  ⟨h.blk, h.new, fun i hi => by rw [hc i hi]; exact h.own i hi, h.ap, h.ne⟩
end
/-- Blocks that are none of these stay, and are none of those. -/
def OffK (b : Nat) (w w' : World) (vs vs' : Nat → Value) : Prop := w.heap.size ≤ w'.heap.size ∧ ∀ g, g < w.heap.size → g ≠ b → (∀ i, i < 8 → (vs i).ownBlock ≠ some g) → w'.heap[g]? = w.heap[g]? ∧ ∀ i, i < 8 → (vs' i).ownBlock ≠ some g
theorem OffK.refl (b : Nat) (w : World) (vs : Nat → Value) : OffK b w w vs vs := ⟨Nat.le_refl _, fun _ _ _ h => ⟨rfl, h⟩⟩
theorem OffK.trans {b : Nat} {w1 w2 w3 : World} {v1 v2 v3 : Nat → Value} (h : OffK b w1 w2 v1 v2) (k : OffK b w2 w3 v2 v3) : OffK b w1 w3 v1 v3 :=
  ⟨Nat.le_trans h.1 k.1, fun g hg hb hv => by
    obtain ⟨h1, h2⟩ := h.2 g hg hb hv
    obtain ⟨k1, k2⟩ := k.2 g (Nat.lt_of_lt_of_le hg h.1) hb h2
    exact ⟨k1.trans h1, k2⟩⟩
theorem OffK.below {b : Nat} {w w' : World} (h : Below w.heap.size w w') (vs : Nat → Value) : OffK b w w' vs vs := ⟨h.size, fun g hg _ hv => ⟨h.block g hg, hv⟩⟩
theorem OffK.app {n0 : Nat} {T : TypeId} {E : Nat → TypeId} {w : World} {b : Nat} {vs : Nat → Value} {C : Nat → List Value} (h : R8 n0 T E w b vs C) {i : Nat} (hi : i < 8) {w1 : World} {v' : Value} (hg : w.grownBy w1 (vs i).ownBlock) (hs : OwnStep w (vs i) v') :
    OffK b w (w1.setCell ⟨b, i, none⟩ v') vs (uPd vs i v') :=
  ⟨by have := hg.size; simpa [World.setCell] using this, fun g hgs hb hv => by
    refine ⟨(Below.heap_setCell w1 _ v' g (fun e => hb e)).trans (hg.block g hgs (fun e => hv i hi e.symm)), fun j hj => ?_⟩
    by_cases e : j = i
    · subst e; rw [uPd_same]; exact hs.ne hgs (hv j hj)
    · rw [uPd_other _ _ e]; exact hv j hj⟩
theorem OffK.at {b : Nat} {w : World} {vs : Nat → Value} {i : Nat} (hi : i < 8) {g' k n c : Nat} (hv : vs i = .slice (some ⟨g', 0, none⟩) n c) (x : Value) : OffK b w (w.setCell ⟨g', k, none⟩ x) vs vs :=
  ⟨by simp [World.setCell], fun g _ _ h => ⟨Below.heap_setCell w _ x g (fun e => h i hi (by rw [hv, e]; rfl)), h⟩⟩
theorem OffK.range {b : Nat} {w w' : World} {vs vs' : Nat → Value} (h : OffK b w w' vs vs') {g o : Nat} {cs : List Value} (hr : w.rangeAt g o cs) (hl : g < w.heap.size) (hb : g ≠ b) (hv : ∀ i, i < 8 → (vs i).ownBlock ≠ some g) : w'.rangeAt g o cs := fun j v hj =>
  (World.cell?_of_block (h.2 g hl hb hv).1).trans (hr j v hj)
end Go.Tk
/- Slices of quads; is a quad right; the order of two; check. -/
namespace Go.Tk
open Go Go.RowKit
def qcs (q : Qd) : List Value := [.int .i64 q.a, .int .i64 q.b, .int .i64 q.c, .int .i64 q.d]
def qv (q : Qd) : Value := .agg #[.int .i64 q.a, .int .i64 q.b, .int .i64 q.c, .int .i64 q.d]
/-- A slice of quads: so many, at so many places. -/
structure SlQ (w : World) (a : Option Addr) (n c : Nat) (L : List Qd) : Prop where
  len : L.length = n
  le : n ≤ c
  max : c ≤ 9223372036854775807
  cell : ∀ i, i < n → ∃ b o, a = some ⟨b, o, none⟩ ∧ w.rangeAt b (o + i * 4) (qcs (L.getD i default))
theorem range_keep {w w' : World} {b o : Nat} {cs : List Value} (h : w.rangeAt b o cs) (hb : Below w.heap.size w w') : w'.rangeAt b o cs := fun j v hv => by
  have := h j v hv
  exact (hb.cell (p := ⟨b, o + j, none⟩) (block_lt_of_cell this)).trans this
theorem SlQ.keep {w w' : World} {a : Option Addr} {n c : Nat} {L : List Qd} (h : SlQ w a n c L) (hb : Below w.heap.size w w') : SlQ w' a n c L :=
  ⟨h.len, h.le, h.max, fun i hi => by
    obtain ⟨b, o, e, hc⟩ := h.cell i hi
    exact ⟨b, o, e, range_keep hc hb⟩⟩
theorem SlQ.front {w : World} {a : Option Addr} {n c : Nat} {L : List Qd} (h : SlQ w a n c L) (m : Nat) (hm : m ≤ n) : SlQ w a m c (L.take m) :=
  ⟨by rw [List.length_take, h.len]; omega, by have := h.le; omega, h.max, fun i hi => by
    obtain ⟨b, o, e, hc⟩ := h.cell i (by omega)
    refine ⟨b, o, e, ?_⟩
    have : (L.take m).getD i default = L.getD i default := by simp [List.getD_eq_getElem?_getD, List.getElem?_take, hi]
    rw [this]; exact hc⟩
theorem qcs_at {w : World} {b o : Nat} {q : Qd} (h : w.rangeAt b o (qcs q)) (k : Nat) (hk : k < 4) : w.cell? ⟨b, o + k, none⟩ = some (.int .i64 (q.at k)) := by
  rcases (by omega : k = 0 ∨ k = 1 ∨ k = 2 ∨ k = 3) with rfl | rfl | rfl | rfl
  · exact h 0 _ rfl
  · exact h 1 _ rfl
  · exact h 2 _ rfl
  · exact h 3 _ rfl
/-- The order of two rows. -/
def cmpI : List Int → List Int → Int
  | [], [] => 0
  | [], _ :: _ => -1
  | _ :: _, [] => 1
  | a :: x, b :: y => if Lib.compareInt a b = 0 then cmpI x y else Lib.compareInt a b
def ql (q : Qd) : List Int := [q.a, q.b, q.c, q.d]
theorem cmpI_q (p q : Qd) : cmpI (ql p) (ql q) = cmpQ p q := by
  unfold ql cmpQ
  simp only [cmpI, Lib.compareInt]
  repeat' split <;> first | rfl | omega | skip
theorem cmpI_at (x y : List Int) (i : Nat) (hx : i < x.length) (hy : i < y.length) : cmpI (x.drop i) (y.drop i) = if Lib.compareInt (x.getD i 0) (y.getD i 0) = 0 then cmpI (x.drop (i + 1)) (y.drop (i + 1)) else Lib.compareInt (x.getD i 0) (y.getD i 0) := by
  rw [List.drop_eq_getElem_cons hx, List.drop_eq_getElem_cons hy]
  simp [cmpI, hx, hy]
theorem cmpI_end (x y : List Int) (h : x.length = y.length) : cmpI (x.drop x.length) (y.drop x.length) = 0 := by
  rw [List.drop_length, h, List.drop_length]; rfl
/-- A whole array out of the middle of a block that every world of the class has. -/
theorem wq_mid {P : Program} {ops : Array Oper} {C : World → Prop} {Q : Act → Prop} {o : Oper} {rest : List Oper} {a : Act} (hg : o.guard = none) (ty : TypeId) (x : Operand) (ho : o.op = .load ty x) (b p : Nat) (hx : a.eval x = .pointer (some ⟨b, p, none⟩)) (cs : List Value) (d : TypeDesc)
    (hb : ∀ w, C w → w.rangeAt b p cs) (hu : P.underlying ty = some d) (hd : d.isRow = true) (hi : (P.info? ty).map (·.size) = some cs.length)
    (hk : wpQuiet P ops C Q rest (a.put o.dst (.agg cs.toArray))) : wpQuiet P ops C Q (o :: rest) a :=
  wq_val _ hg (fun w hw => by
    unfold execOp
    simp only [ho, hx, Instr.loadAt, Instr.sureAddr, Sem.run_bind, Sem.run_pure, Result.andThen_ok, run_loadVar_mid w b p ty cs d (hb w hw) hu hd hi]) hk
end Go.Tk
namespace Go.Proofs.YtgajpekolamjbaaDoor
open Go.RowKit Go.Tk
theorem Tryd.sizeIds : (Tryd.prog.info? 75).map (·.size) = some 4 := by kernel_rfl
theorem right_calls (w : World) (k : Nat) (hk : k < 4) (n : Int) :
    Calls Tryd.prog 41 #[.int .i64 (k : Nat), .int .i64 n] w fun e w' => e = .returned (.bool (okN k n)) ∧ w' = w := by
  obtain ⟨m, hm⟩ : ∃ m : Int, m = ((min k 1 : Nat) : Int) := ⟨_, rfl⟩
  have hm2 : min (k : Int) 1 = m := by omega
  have ho : okN k n = (decide (m ≤ n) && decide (n ≤ 4194304)) := by unfold okN; rw [hm]
  have HO := Lib.hid ho
  have HM := Lib.hid hm
  clear hm ho
  by_cases h1 : m ≤ n
  · have e1 : decide (m ≤ n) = true := decide_eq_true h1
    have h2 : okN k n = decide (n ≤ 4194304) := by rw [HO.out, e1, Bool.true_and]
    have H2 := Lib.hid h2
    clear h1 h2
    go_enter Tryd.func41, Tryd.ntmps41
    go_wp2_with fail
    go_ret
    exact ⟨by rw [H2.out]; rfl, rfl⟩
  · have e1 : decide (m ≤ n) = false := decide_eq_false h1
    have h2 : okN k n = false := by rw [HO.out, e1, Bool.false_and]
    have H2 := Lib.hid h2
    clear h1 h2
    go_enter Tryd.func41, Tryd.ntmps41
    go_wp2_with fail
    go_ret
    exact ⟨by rw [H2.out]; rfl, rfl⟩
end Go.Proofs.YtgajpekolamjbaaDoor
