/- A dictionary's blocks: what the iterator goes through. -/
import Derived.Test.YtjgcmnppiaikcaaDoorDkE
import Derived.RangeFuncNested
import Derived.RangeFuncBound
import Derived.RangeFuncCalls
import Derived.RangeFuncLeaves
import Derived.RangeFuncBox
import Derived.Shelf.Abstract
import Derived.Shelf.RegionOpen
import Derived.WalkKit
import Derived.OwnWalkIn
import Derived.TacticsInMore
import Derived.LoopNIn
import Derived.LoopIn
set_option linter.unusedVariables false
set_option linter.unusedSimpArgs false
namespace Go.Proofs.YtjgcmnppiaikcaaDoor
open Go.RowKit Go.Shelf Go.Tk
attribute [local go_sem] Oper.semAt_some
/-- What an entry that is one tells. -/
theorem ent_ok {eb : List UInt8} {p : Int} {first : Bool} {last s : List UInt8} {nx : Int} (h : entP eb p first last = (s, nx, 0)) : s.length ≤ 262144 ∧ 0 ≤ nx ∧ nx ≤ eb.length ∧ s.length ≤ last.length + eb.length ∧ p ≤ nx := by
  unfold entP at h
  split at h
  · cases h
  · rename_i hp
    simp only at h
    have hr1 : (0 ≤ (if first = true then ((0, 0, 0) : Int × Nat × Int) else upS (nums (eb.drop p.toNat)) 0 0 mxU).1) ∧ (if first = true then ((0, 0, 0) : Int × Nat × Int) else upS (nums (eb.drop p.toNat)) 0 0 mxU).2.1 ≤ (nums (eb.drop p.toNat)).length := by
      split
      · simp
      · have := ups_range (nums (eb.drop p.toNat)) 0 0 (Nat.zero_le _); exact ⟨this.1.1, this.2.2⟩
    generalize (if first = true then ((0, 0, 0) : Int × Nat × Int) else upS (nums (eb.drop p.toNat)) 0 0 mxU) = t1 at h hr1
    have hr2 := ups_range (nums (eb.drop p.toNat)) t1.2.1 0 hr1.2
    generalize upS (nums (eb.drop p.toNat)) t1.2.1 0 mxU = t2 at h hr2
    split at h
    · simp only [Prod.mk.injEq] at h; exact absurd h.2.2 (by assumption)
    split at h
    · simp only [Prod.mk.injEq] at h; exact absurd h.2.2 (by assumption)
    split at h
    · simp at h
    split at h
    · simp at h
    split at h
    · simp at h
    · simp only [Prod.mk.injEq, and_true] at h
      obtain ⟨rfl, rfl⟩ := h
      rw [nums_len, List.length_drop] at *
      simp only [List.length_append, List.length_take, List.length_drop]
      omega
/-- The entries of a block, from one on: their numbers and texts. -/
def bkF (eb : List UInt8) (n : Nat) : Nat → Nat → Int → List UInt8 → List (Nat × List UInt8)
  | 0, _, _, _ => []
  | f + 1, i, p, last =>
    if n ≤ i then [] else
    if (entP eb p (decide (i % 16 = 0)) last).2.2 ≠ 0 then [] else
    (i, (entP eb p (decide (i % 16 = 0)) last).1) :: bkF eb n f (i + 1) (entP eb p (decide (i % 16 = 0)) last).2.1 (entP eb p (decide (i % 16 = 0)) last).1
/-- Block q. -/
def blkN (pz : List Int) (wd : Nat) (eb : List UInt8) (n q : Nat) : List (Nat × List UInt8) := bkF eb n 16 (16 * q) (numT pz wd q wd : Nat) []
theorem bkF_len (eb : List UInt8) (n : Nat) : ∀ (f i : Nat) (p : Int) (last : List UInt8), (bkF eb n f i p last).length ≤ f
  | 0, _, _, _ => by simp [bkF]
  | f + 1, i, p, last => by
    simp only [bkF]
    split
    · simp
    split
    · simp
    · have := bkF_len eb n f (i + 1) (entP eb p (decide (i % 16 = 0)) last).2.1 (entP eb p (decide (i % 16 = 0)) last).1
      simp only [List.length_cons]; omega
theorem bkF_at (eb : List UInt8) (n : Nat) : ∀ (f i : Nat) (p : Int) (last : List UInt8) (j : Nat) (h : j < (bkF eb n f i p last).length), ((bkF eb n f i p last)[j]).1 = i + j ∧ i + j < n ∧ ((bkF eb n f i p last)[j]).2.length ≤ 262144
  | 0, _, _, _, j, h => by simp [bkF] at h
  | f + 1, i, p, last, j, h => by
    have hx : bkF eb n (f + 1) i p last = if n ≤ i then [] else
      if (entP eb p (decide (i % 16 = 0)) last).2.2 ≠ 0 then [] else
      (i, (entP eb p (decide (i % 16 = 0)) last).1) :: bkF eb n f (i + 1) (entP eb p (decide (i % 16 = 0)) last).2.1 (entP eb p (decide (i % 16 = 0)) last).1 := rfl
    by_cases h1 : n ≤ i
    · rw [if_pos h1] at hx; rw [hx] at h; simp at h
    rw [if_neg h1] at hx
    by_cases h2 : (entP eb p (decide (i % 16 = 0)) last).2.2 ≠ 0
    · rw [if_pos h2] at hx; rw [hx] at h; simp at h
    rw [if_neg h2] at hx
    have he : entP eb p (decide (i % 16 = 0)) last = ((entP eb p (decide (i % 16 = 0)) last).1, (entP eb p (decide (i % 16 = 0)) last).2.1, 0) := by
      have := Classical.not_not.1 h2
      rw [← this]
    have hb := (ent_ok he).1
    simp only [hx] at h ⊢
    cases j with
    | zero => exact ⟨rfl, by omega, hb⟩
    | succ j =>
      simp only [List.length_cons] at h
      have := bkF_at eb n f (i + 1) (entP eb p (decide (i % 16 = 0)) last).2.1 (entP eb p (decide (i % 16 = 0)) last).1 j (by omega)
      simp only [List.getElem_cons_succ]
      exact ⟨by rw [this.1]; omega, by omega, this.2.2⟩
theorem SlI_same {k : IntKind} {w w' : World} {a : Option Addr} {n c : Nat} {zs : List Int} (h : SlI k w a n c zs) (hs : ∀ j, j < w.heap.size → w'.heap[j]? = w.heap[j]?) : SlI k w' a n c zs :=
  ⟨h.len, h.le, h.max, fun i hi => by
    obtain ⟨b, p, rfl, hc⟩ := h.cell i hi
    exact ⟨b, p, rfl, (World.cell?_of_block (a := ⟨b, p + i, none⟩) (hs b (block_lt_of_cell hc))).trans hc⟩⟩
theorem DictM.same {w w' : World} {gd n wd : Nat} {pa : Option Addr} {pc : Nat} {pz : List Int} {ea : Option Addr} {ec : Nat} {ez : List Int} (h : DictM w gd n wd pa pc pz ea ec ez) (hs : ∀ j, j < w.heap.size → w'.heap[j]? = w.heap[j]?) (hz : w.heap.size ≤ w'.heap.size) : DictM w' gd n wd pa pc pz ea ec ez :=
  ⟨(hs gd (Array.getElem?_eq_some_iff.1 h.row).1).trans h.row, SlI_same h.ps hs, SlI_same h.es hs, h.en, (fun x hx => Nat.lt_of_lt_of_le (h.ebk x hx) hz), h.pu, h.eu, h.nN, h.eN, h.wN, h.pN⟩
/-- What stood in w0, and two boxes, are as they were. -/
def KpD (w0 : World) (p1 p2 : Nat) (A B : World) : Prop := ∀ j, (j < w0.heap.size ∨ j = p1 ∨ j = p2) → B.heap[j]? = A.heap[j]?
theorem size_of_same {w0 w : World} (h : ∀ j, j < w0.heap.size → w.heap[j]? = w0.heap[j]?) : w0.heap.size ≤ w.heap.size := by
  by_cases h0 : w0.heap.size = 0
  · omega
  · have := h (w0.heap.size - 1) (by omega)
    have h2 : w0.heap.size - 1 < w0.heap.size := by omega
    rw [Array.getElem?_eq_getElem h2] at this
    have := (Array.getElem?_eq_some_iff.1 this).1
    omega
def encK (x : Nat × List UInt8) : Array Value := #[.int .i64 (x.1 : Nat), .string ⟨x.2.toArray⟩]
theorem take_fin {m i : Nat} (h : i < m) : (List.finRange m).take (i + 1) = (List.finRange m).take i ++ [⟨i, h⟩] := by
  rw [List.take_succ_eq_append_getElem (by simpa using h)]
  simp
end Go.Proofs.YtjgcmnppiaikcaaDoor
