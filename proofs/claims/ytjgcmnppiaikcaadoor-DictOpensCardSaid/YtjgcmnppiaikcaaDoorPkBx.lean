/- A loop over packed numbers that appends to a box: what the box holds. -/
import Derived.Test.YtjgcmnppiaikcaaDoorPkI
import Derived.Test.YtjgcmnppiaikcaaDoorOpen
set_option linter.unusedVariables false
set_option linter.unusedSimpArgs false
namespace Go.Tk
open Go Go.RowKit
theorem ownsRow_slice {w : World} {base e size n : Nat} {v : Value} {xs : List Value} (h : w.ownsRow base e size v n xs) : ∃ a c, v = .slice a n c := by
  rcases h.2 with ⟨rfl, rfl⟩ | ⟨g, cap, cur, rfl, _⟩
  · exact ⟨none, 0, rfl⟩
  · exact ⟨_, cap, rfl⟩
theorem boxed_app {W w1 : World} {n₀ n₁ B : Nat} {t e : TypeId} {size : Nat} {v v' : Value} {k m : Nat} {xs ys : List Value} {tmp : Obj}
    (hv : Boxed W B t v) (hte : t ≠ e) (hrow : W.ownsRow n₀ e size v k xs) (hn : n₁ ≤ n₀) (hnB : n₁ ≤ B) (hnW : n₁ ≤ W.heap.size)
    (hown' : w1.ownsRow n₀ e size v' m ys) (hgrow : (W.alloc tmp).grownBy w1 v.ownBlock) :
    Boxed w1 B t v ∧ Boxed (w1.setCell ⟨B, 0, none⟩ v') B t v' ∧ (w1.setCell ⟨B, 0, none⟩ v').ownsRow n₀ e size v' m ys ∧ KeepsOthers W (w1.setCell ⟨B, 0, none⟩ v') ∧ Below n₁ W (w1.setCell ⟨B, 0, none⟩ v') ∧
      (∀ j t' u, Boxed W j t' u → t' ≠ e → j ≠ B → Boxed (w1.setCell ⟨B, 0, none⟩ v') j t' u) ∧
      (∀ j, j < n₀ → j < W.heap.size → j ≠ B → (w1.setCell ⟨B, 0, none⟩ v').heap[j]? = W.heap[j]?) := by
  have hv1 : Boxed w1 B t v := (hv.alloc tmp).kept hgrow (hv.not_row hte hrow)
  have hlow : ∀ j, v.ownBlock = some j → n₀ ≤ j := fun j ej => by
    rcases hrow.2 with ⟨rfl, _⟩ | ⟨g, cap, cur, rfl, hb, _, _⟩
    · simp [Value.ownBlock] at ej
    · obtain rfl : g = j := by simpa [Value.ownBlock] using ej
      exact hb
  refine ⟨hv1, hv1.set v', hown'.kept (grownBy_setCell' w1 B v') (.inr (hv1.not_row hte hown').symm), ?_, ?_, ?_, ?_⟩
  · refine ((KeepsOthers.alloc W tmp).trans (KeepsOthers.of_grownBy hgrow fun j o ej hj => ?_)).trans (KeepsOthers.setCell _ _ _)
    rcases (hrow.alloc tmp).2 with ⟨rfl, _⟩ | ⟨g, cap, cur, rfl, _, hgb, _⟩
    · simp [Value.ownBlock] at ej
    · obtain rfl : g = j := by simpa [Value.ownBlock] using ej
      rw [hgb] at hj; cases hj; rfl
  · refine (((Below.refl n₁ W).alloc hnW tmp).grown hgrow (by simp; omega) fun j ej => ?_).setCell (p := ⟨B, 0, none⟩) hnB v'
    have := hlow j ej; omega
  · intro j t' u hb hne hj
    exact (((hb.alloc tmp).kept hgrow (hb.not_row hne hrow))).other hj v'
  · intro j hj hjW hjB
    rw [heap_setCell_other _ _ _ _ (by simpa using hjB), hgrow.block j (by simp; omega) (fun e => by have := hlow j e.symm; omega)]
    exact Below.heap_alloc _ _ _ hjW
/-- What stood below a bound stands, but for one box. -/
def Carry (W : World) (B : Nat) (X : World) : Prop := W.heap.size ≤ X.heap.size ∧ ∀ j, j < W.heap.size → j ≠ B → X.heap[j]? = W.heap[j]?
theorem carry_own {β : Type} (W : World) (B : Nat) : OwnFrom W.heap.size (fun (_ : β) X => Carry W B X) :=
  fun _ X Y row hs hg hr => ⟨Nat.le_trans hs.1 hg.size, fun j hj hB => (hg.block j (by have := hs.1; omega) (fun e => by have := (hr j e.symm).1; omega)).trans (hs.2 j hj hB)⟩
theorem drewN_drewN (X : World) (a b : Nat) : (X.drewN a).drewN b = X.drewN (a + b) := by simp [World.drewN, Nat.add_assoc]
theorem Carry.refl (W : World) (B : Nat) : Carry W B W := ⟨Nat.le_refl _, fun _ _ _ => rfl⟩
theorem Carry.box {W X : World} {B j : Nat} {t : TypeId} {v : Value} (h : Carry W B X) (hb : Boxed W j t v) (hj : j ≠ B) : Boxed X j t v := (h.2 j (lt_of_block hb) hj).trans hb
theorem Carry.row {W X : World} {B n₀ : Nat} {t e : TypeId} {size : Nat} {v u : Value} {k : Nat} {xs : List Value} (h : Carry W B X) (hr : W.ownsRow n₀ e size v k xs) (hB : Boxed W B t u) (hne : t ≠ e) : X.ownsRow n₀ e size v k xs := by
  have hn := hB.not_row hne hr
  rcases hr with ⟨a, ⟨e1, e2⟩ | ⟨g, cap, cur, e1, e2, e3, e4⟩⟩
  · exact ⟨a, .inl ⟨e1, e2⟩⟩
  · refine ⟨a, .inr ⟨g, cap, cur, e1, e2, ?_, e4⟩⟩
    exact (h.2 g (lt_of_block e3) (fun e => hn (by subst e1; simp [Value.ownBlock, e]))).trans e3
theorem Carry.new {W X : World} {B : Nat} (h : Carry W B X) (o : Obj) : Carry W B (X.alloc o) := ⟨by have := h.1; simp; omega, fun j hj hB => (Below.heap_alloc _ _ _ (by have := h.1; omega)).trans (h.2 j hj hB)⟩
theorem Carry.then {W Y Z : World} {B C : Nat} (h : Carry W B Y) (k : Carry Y C Z) (hC : W.heap.size ≤ C) : Carry W B Z :=
  ⟨Nat.le_trans h.1 k.1, fun j hj hB => (k.2 j (by have := h.1; omega) (by omega)).trans (h.2 j hj hB)⟩
theorem Carry.set {W X : World} {B : Nat} (h : Carry W B X) (v : Value) : Carry W B (X.setCell ⟨B, 0, none⟩ v) := ⟨by simpa using h.1, fun j hj hB => (heap_setCell_other _ _ _ _ (by simpa using hB)).trans (h.2 j hj hB)⟩
theorem Carry.box' {W X : World} {B D : Nat} {t : TypeId} {v : Value} {o : Obj} (h : Carry W B X) (hD : W.heap[D]? = some o) (ho : o.isCells = false) (hB : Boxed W B t v) : X.heap[D]? = some o := (h.2 D (lt_of_block hD) (fun e => by rw [e, hB] at hD; cases hD; cases ho)).trans hD
theorem leaves2c {F : Fence} {n : Nat} {P : Program} {fn : Func} {R : Ending → World → Prop} {a : Act} {W : World} {D1 D2 : Nat} {v : Value}
    (h : a.defers = [{ target := .collected D2, args := #[] }, { target := .collected D1, args := #[] }]) (hne : D1 ≠ D2) (hK1 : W.heap[D1]? = some (.deferred (some []))) (hK2 : W.heap[D2]? = some (.deferred (some [])))
    (hres : (results fn a.tmps).run P ((W.putObj D2 (.deferred none)).putObj D1 (.deferred none)) = .ok v ((W.putObj D2 (.deferred none)).putObj D1 (.deferred none))) (hR : R (.returned v) ((W.putObj D2 (.deferred none)).putObj D1 (.deferred none))) : LeavesInM F n P fn a.tmps R a.defers .returning W := by
  rw [h]
  refine ⟨by simp, .inl ⟨_, _, rfl, run_takeDeferred hK2, ?_⟩⟩
  have hK1' : (W.putObj D2 (.deferred none)).heap[D1]? = some (.deferred (some [])) := (World.putObj_heap_other hne).trans hK1
  refine ⟨by simp, .inl ⟨_, _, rfl, run_takeDeferred hK1', ?_⟩⟩
  exact ⟨_, hres, hR⟩
theorem leaves1 {F : Fence} {n : Nat} {P : Program} {fn : Func} {R : Ending → World → Prop} {a : Act} {W : World} {D : Nat} {v : Value}
    (h : a.defers = [{ target := .collected D, args := #[] }]) (hK : W.heap[D]? = some (.deferred (some [])))
    (hres : (results fn a.tmps).run P (W.putObj D (.deferred none)) = .ok v (W.putObj D (.deferred none))) (hR : R (.returned v) (W.putObj D (.deferred none))) : LeavesInM F n P fn a.tmps R a.defers .returning W := by
  rw [h]
  refine ⟨by simp, .inl ⟨_, _, rfl, run_takeDeferred hK, ?_⟩⟩
  exact ⟨_, hres, hR⟩
theorem row_put {W : World} {n₀ e size : Nat} {v : Value} {k : Nat} {xs : List Value} (h : W.ownsRow n₀ e size v k xs) {D : Nat} {o : Obj} (hD : W.heap[D]? = some o) (ho : o.isCells = false) (o' : Obj) : (W.putObj D o').ownsRow n₀ e size v k xs := by
  rcases h with ⟨a, ⟨e1, e2⟩ | ⟨g, cap, cur, e1, e2, e3, e4⟩⟩
  · exact ⟨a, .inl ⟨e1, e2⟩⟩
  · refine ⟨a, .inr ⟨g, cap, cur, e1, e2, ?_, e4⟩⟩
    refine (World.putObj_heap_other (fun e => ?_)).trans e3
    subst e
    rw [e3] at hD; cases hD; cases ho
theorem cell_one_new (W : World) (v : Value) (e : TypeId) : ∀ j u, [v][j]? = some u → (W.alloc (.cells #[v] e)).cell? ((⟨W.heap.size, 0, none⟩ : Addr).add j) = some u := by
  intro j u hu
  cases j with
  | zero =>
    obtain rfl : v = u := by simpa using hu
    rw [Addr.add_lit, World.cell?_alloc_at _ _ _ _ rfl]; rfl
  | succ j => simp at hu
def numCs (zs : List Int) (d : Nat) (L : List Nat) : List Value := L.map fun x : Nat => .int .u64 (numT zs d x d : Nat)
theorem numCs_snoc (zs : List Int) (d : Nat) (L : List Nat) (x : Nat) : numCs zs d (L ++ [x]) = numCs zs d L ++ [.int .u64 (numT zs d x d : Nat)] := by simp [numCs]
/-- Between two rounds: the box holds what has come. -/
def PInv (T e : TypeId) (n₀ B : Nat) (zs : List Int) (d : Nat) (pre : List Nat) (W : World) : Prop := ∃ v, Boxed W B T v ∧ W.ownsRow n₀ e 1 v pre.length (numCs zs d pre) ∧ True
theorem PInv.own (T e : TypeId) (n₀ B : Nat) (zs : List Int) (d : Nat) : Own (fun pre W => PInv T e n₀ B zs d pre W) := by
  unfold PInv
  exact holdsRow_own n₀ B T e 1 (fun (pre : List Nat) => pre.length) (fun (pre : List Nat) => numCs zs d pre) (fun (pre : List Nat) _ => True)
end Go.Tk
