/- Numbers off the front of any bytes; a block of cells. -/
import Derived.Test.YtgajpekolamjbaaDoorBitsCur8
import Derived.Test.YtgajpekolamjbaaDoorCpK
import Derived.Test.YtgajpekolamjbaaDoorRkP
import Derived.BigQuiet
import Derived.Deep.QuietTactic
set_option linter.unusedVariables false
set_option linter.unusedSimpArgs false
namespace Go.Tk
open Go Go.RowKit
theorem nums_u8 (b : List UInt8) : ∀ x ∈ nums b, 0 ≤ x ∧ x < 256 := by
  intro x hx
  simp only [nums, List.mem_map] at hx
  obtain ⟨y, _, rfl⟩ := hx
  have := y.toNat_lt
  omega
theorem bits_or_u64 (x y : Int) : 0 ≤ bits .or .u64 x y ∧ bits .or .u64 x y < 18446744073709551616 := by
  show 0 ≤ IntKind.u64.wrap _ ∧ IntKind.u64.wrap _ < _
  rw [IntKind.wrap_u64]
  omega
/-- A block of N cells. -/
def rowC (N : Nat) (cs : Nat → Value) : Array Value := ((List.range N).map cs).toArray
theorem rowC_at {N : Nat} {cs : Nat → Value} {i : Nat} (h : i < N) : (rowC N cs)[i]? = some (cs i) := by simp [rowC, h]
def setF (cs : Nat → Value) (i : Nat) (v : Value) : Nat → Value := fun k => if k = i then v else cs k
theorem setF_same (cs : Nat → Value) (i : Nat) (v : Value) : setF cs i v i = v := by simp [setF]
theorem setF_other (cs : Nat → Value) {i k : Nat} (v : Value) (h : k ≠ i) : setF cs i v k = cs k := by simp [setF, h]
theorem rowC_set {N : Nat} {cs : Nat → Value} {i : Nat} (v : Value) : (rowC N cs).setIfInBounds i v = rowC N (setF cs i v) := by
  apply Array.ext_getElem?
  intro j
  by_cases hj : j < N
  · rw [rowC_at hj]
    by_cases e : j = i
    · subst e; rw [Array.getElem?_setIfInBounds_self_of_lt (by simp [rowC]; exact hj), setF_same]
    · rw [Array.getElem?_setIfInBounds_ne (fun h => e h.symm), rowC_at hj, setF_other _ _ e]
  · rw [Array.getElem?_eq_none (by simp [rowC]; omega), Array.getElem?_eq_none (by simp [rowC]; omega)]
/-- Block g is a row of N cells. -/
def RowC (w : World) (g N : Nat) (T : TypeId) (cs : Nat → Value) : Prop := w.heap[g]? = some (.cells (rowC N cs) T (0, 0))
theorem RowC.lt {w : World} {g N : Nat} {T : TypeId} {cs : Nat → Value} (h : RowC w g N T cs) : g < w.heap.size := (Array.getElem?_eq_some_iff.1 h).1
theorem RowC.cell {w : World} {g N : Nat} {T : TypeId} {cs : Nat → Value} (h : RowC w g N T cs) {i : Nat} (hi : i < N) : w.cell? ⟨g, i, none⟩ = some (cs i) := by
  rw [cell_of_row w g i _ _ _ h, rowC_at hi]
theorem RowC.frozen {w : World} {g N : Nat} {T : TypeId} {cs : Nat → Value} (h : RowC w g N T cs) (i : Nat) : w.frozen? ⟨g, i, none⟩ = false := frozen_of_row w g i _ _ h
theorem RowC.set {w : World} {g N : Nat} {T : TypeId} {cs : Nat → Value} (h : RowC w g N T cs) (i : Nat) (v : Value) : RowC (w.setCell ⟨g, i, none⟩ v) g N T (setF cs i v) := by
  unfold RowC; rw [heap_setCell_same w g i _ _ _ h, rowC_set]
theorem RowC.drewN {w : World} {g N : Nat} {T : TypeId} {cs : Nat → Value} (h : RowC w g N T cs) (m : Nat) : RowC (w.drewN m) g N T cs := h
theorem RowC.below {w w' : World} {g N : Nat} {T : TypeId} {cs : Nat → Value} (h : RowC w g N T cs) (hb : Below w.heap.size w w') : RowC w' g N T cs := (hb.block g h.lt).trans h
theorem RowC.kept {S : Nat → Prop} {w w' : World} {g N : Nat} {T : TypeId} {cs : Nat → Value} (h : RowC w g N T cs) (hk : Kept S w w') (hs : ¬ S g) : RowC w' g N T cs := (hk.block g h.lt hs).trans h
end Go.Tk
namespace Go.Proofs.YtgajpekolamjbaaDoor
open Go.RowKit Go.Tk
theorem pk_range (l : List Int) : 0 ≤ (pk l).1 ∧ (pk l).1 < 18446744073709551616 := by
  have key : ∀ (l : List Int) (i : Nat) (n : Int), 0 ≤ (pkF l i n).1 ∧ (pkF l i n).1 < 18446744073709551616 := by
    intro l
    induction l with
    | nil => intro i n; simp [pkF]
    | cons b r ih =>
      intro i n
      simp only [pkF]
      split
      · simp
      · split
        · exact bits_or_u64 _ _
        · exact ih _ _
  exact key l 0 0
abbrev mxU : Int := 18446744073709551615
theorem ups_range (z : List Int) (i : Nat) (e : Int) (hi : i ≤ z.length) : (0 ≤ (upS z i e mxU).1 ∧ (upS z i e mxU).1 < 18446744073709551616) ∧ i ≤ (upS z i e mxU).2.1 ∧ (upS z i e mxU).2.1 ≤ z.length := by
  have h1 := pk_range (z.drop i)
  obtain ⟨k, hk1, hk2, _, _⟩ := pkF_len (z.drop i) 0 0
  have hk : (pk (z.drop i)).2.1 = k := hk1
  rw [List.length_drop] at hk2
  unfold upS
  split
  · refine ⟨by simp, by simp, by simpa using hi⟩
  · split
    · refine ⟨by simp, by simp, by simpa using hi⟩
    · split
      · refine ⟨by simp, by simp, by simpa using hi⟩
      · refine ⟨h1, by simp, ?_⟩
        simp only [hk, Int.toNat_natCast]
        omega
theorem pkF_ten : ∀ (l : List Int) (i : Nat) (n : Int), i ≤ 9 → (pkF l i n).2.1 ≤ 10
  | [], i, n, h => by simp [pkF]
  | b :: r, i, n, h => by
    simp only [pkF]
    split
    · simp
    · rename_i h1
      split
      · simp only; omega
      · exact pkF_ten r (i + 1) _ (by omega)
theorem pkF_some : ∀ (l : List Int) (i : Nat) (n : Int), (pkF l i n).2.1 ≠ 0 ∨ (pkF l i n).2.2 ≠ 0
  | [], i, n => by simp [pkF]
  | b :: r, i, n => by
    simp only [pkF]
    split
    · simp
    · split
      · left; simp only; omega
      · exact pkF_some r (i + 1) _
theorem ups_ten (z : List Int) (i : Nat) (e : Int) : (upS z i e mxU).2.1 ≤ i + 10 := by
  have h := pkF_ten (z.drop i) 0 0 (by omega)
  unfold upS pk
  split
  · simp
  · split
    · simp
    · split
      · simp
      · simp only
        omega
theorem rdC_calls (w : World) (a : Option Addr) (n c : Nat) (z : List Int) (h : SlI .u8 w a n c z) (hn : a = none → c = 0) (ha : ∀ x, a = some x → x.block < w.heap.size) :
    Calls Tryd.prog 11 #[.slice a n c] w fun e w' => e = .returned (.pointer (some ⟨w.heap.size, 0, none⟩)) ∧ CurC w' w.heap.size a c z 0 0 ∧ Kept (fun _ => False) w w' := by
  obtain rfl := h.len
  have hk : Kept (fun _ => False) w (w.alloc (.cells #[.slice a z.length c, .int .i64 0, .int .i64 0] 78)) := (Kept.refl _ w).alloc _
  have hC : CurC (w.alloc (.cells #[.slice a z.length c, .int .i64 0, .int .i64 0] 78)) w.heap.size a c z 0 0 := by
    refine ⟨heap_alloc_new w _, h.kept hk (fun _ _ h => h), hn, (fun x hx => by have := ha x hx; omega), Nat.zero_le _⟩
  have HC := Lib.hid hC
  have HK := Lib.hid hk
  clear hC hk
  go_enter Tryd.func11, Tryd.ntmps11
  go_wp2
  go_ret
  exact ⟨rfl, HC.out, HK.out⟩
end Go.Proofs.YtgajpekolamjbaaDoor
