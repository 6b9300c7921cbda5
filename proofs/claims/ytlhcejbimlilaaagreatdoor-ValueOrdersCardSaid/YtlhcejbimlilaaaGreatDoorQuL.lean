/- Regions that draw their order, in the class of all worlds that keep what was there: callees may make memory. -/
import Derived.Test.YtlhcejbimlilaaaGreatDoorReg
import Derived.Test.YtlhcejbimlilaaaGreatDoorVaP
import Derived.Deep.QuietTactic
import Derived.BigQuiet
import Derived.Laws.Rows
set_option linter.unusedVariables false
set_option linter.unusedSimpArgs false
namespace Go.Tk
open Go Go.RowKit
/-- A world in which all that was there is as it was. -/
structure Lw (w : World) where
  to : World
  bel : Below w.heap.size w to
theorem Lw.cell {w : World} {p : Addr} {v : Value} (h : w.cell? p = some v) : ∀ x : Lw w, x.to.cell? p = some v := fun x => (x.bel.cell (p := p) (block_lt_of_cell h)).trans h
theorem Lw.row {w : World} {g : Nat} {o : Obj} (h : w.heap[g]? = some o) : ∀ x : Lw w, x.to.heap[g]? = some o := fun x => (x.bel.block g (Array.getElem?_eq_some_iff.1 h).1).trans h
theorem Lw.froz {w : World} {p : Addr} (h : w.frozen? p = false) (hp : p.block < w.heap.size) : ∀ x : Lw w, x.to.frozen? p = false := fun x => (x.bel.frozen (p := p) hp).trans h
def Lw.next {w : World} (x : Lw w) {w' : World} (h : Below x.to.heap.size x.to w') : Lw w := ⟨w', x.bel.trans (h.mono x.bel.size)⟩
theorem box1 (w : World) (o : Obj) : (w.alloc o).heap[w.heap.size]? = some o ∧ Below w.heap.size w (w.alloc o) := ⟨heap_alloc_new w o, (Below.refl _ _).alloc (Nat.le_refl _) _⟩
theorem box2 (w : World) (o1 o2 : Obj) : ((w.alloc o1).alloc o2).heap[w.heap.size]? = some o1 ∧ ((w.alloc o1).alloc o2).heap[w.heap.size + 1]? = some o2 ∧ Below w.heap.size w ((w.alloc o1).alloc o2) :=
  ⟨(Below.heap_alloc _ _ _ (by simp)).trans (heap_alloc_new _ _), by have := heap_alloc_new (w.alloc o1) o2; simpa using this, ((Below.refl _ _).alloc (Nat.le_refl _) _).alloc (by simp) _⟩
/-- The cell of a block that is known whole. -/
theorem row_cell {w : World} {g : Nat} {cs : Array Value} {t : TypeId} {fr : Nat × Nat} (h : w.heap[g]? = some (.cells cs t fr)) (i : Nat) : w.cell? ⟨g, i, none⟩ = cs[i]? := by
  simp [World.cell?, h]
/-- The block of a result that a call has made: what its cells hold; all else is as it was. -/
structure Res1 (T : TypeId) (z : Array Value) (w x : World) : Prop where
  row : x.heap[w.heap.size]? = some (.cells z T (0, 0))
  below : Below w.heap.size w x
theorem Res1.start (T : TypeId) (z : Array Value) (w : World) : Res1 T z w (w.alloc (.cells z T)) := ⟨heap_alloc_new _ _, (Below.refl _ _).alloc (Nat.le_refl _) _⟩
theorem Res1.lt {T : TypeId} {z : Array Value} {w x : World} (h : Res1 T z w x) : w.heap.size < x.heap.size := (Array.getElem?_eq_some_iff.1 h.row).1
theorem Res1.next {T : TypeId} {z : Array Value} {w x y : World} (h : Res1 T z w x) (hb : Below x.heap.size x y) : Res1 T z w y := ⟨(hb.block _ h.lt).trans h.row, h.below.trans (hb.mono h.below.size)⟩
theorem Res1.drewN {T : TypeId} {z : Array Value} {w x : World} (h : Res1 T z w x) (n : Nat) : Res1 T z w (x.drewN n) := ⟨h.row, below_drewN h.below n⟩
theorem Res1.cell {T : TypeId} {z : Array Value} {w x : World} (h : Res1 T z w x) (i : Nat) : x.cell? ⟨w.heap.size, i, none⟩ = z[i]? := row_cell h.row i
theorem Res1.frozen {T : TypeId} {z : Array Value} {w x : World} (h : Res1 T z w x) (i : Nat) : x.frozen? ⟨w.heap.size, i, none⟩ = false := frozen_of_row _ _ _ _ _ h.row
section
variable {P : Program}
theorem wpQuiet_mono {ops : Array Oper} {C : World → Prop} {Q Q' : Act → Prop} (h : ∀ a, Q a → Q' a) : ∀ (l : List Oper) (a : Act), wpQuiet P ops C Q l a → wpQuiet P ops C Q' l a
  | [], a, hh => h a hh
  | o :: rest, a, hh => by
    unfold wpQuiet at hh ⊢
    split
    · rename_i hw; rw [if_pos hw] at hh; exact Oper.quiet_mono (fun a' => wpQuiet_mono h rest a') hh
    · rename_i hw; rw [if_neg hw] at hh; exact wpQuiet_mono h rest _ hh
theorem wp_region_lw {id : Nat} {Q : Exit → Act → World → Prop} {a : Act} {w : World} {l : List Oper} (hm : P.follows .mixedOrders = true) (hB : Region.lexB .any l.toArray = true)
    (h : wpQuiet P l.toArray (fun w' => ∃ x : Lw w, w' = x.to) (fun a' => ∀ x : Lw w, Q .normal a' x.to) l a) : (Code.region id l.toArray true).wp P Q a w :=
  wp_region_quiet_all (fun w' => ∃ x : Lw w, w' = x.to) hm hB ⟨⟨w.drew, below_drewN (Below.refl _ _) 1⟩, rfl⟩ (wpQuiet_mono (fun a' h w' ⟨x, hx⟩ => hx ▸ h x) _ _ h)
theorem lw_call {f : FuncId} {args : Array Value} {w : World} {x : Lw w} {v : Value} (h : Calls P f args x.to fun e w'' => e = .returned v ∧ Below x.to.heap.size x.to w'') : Calls P f args x.to fun e w'' => e = .returned v ∧ ∃ y : Lw w, w'' = y.to :=
  h.mono fun _ _ ⟨he, hb⟩ => ⟨he, x.next hb, rfl⟩
theorem lw_same {f : FuncId} {args : Array Value} {w : World} {x : Lw w} {v : Value} (h : Calls P f args x.to fun e w'' => e = .returned v ∧ x.to = w'') : Calls P f args x.to fun e w'' => e = .returned v ∧ ∃ y : Lw w, w'' = y.to :=
  h.mono fun _ _ ⟨he, hb⟩ => ⟨he, x, hb.symm⟩
/-- The head in whatever order, then a tail in the order of the text. -/
theorem wp_region_lw_tail {id : Nat} {Q : Exit → Act → World → Prop} {a : Act} {w : World} {l : List Oper} (n : Nat) (hm : P.follows .mixedOrders = true) (hB : Region.lexTailB .any l.toArray n = true)
    (h : wpQuiet P l.toArray (fun w' => ∃ x : Lw w, w' = x.to) (fun a' => ∀ x : Lw w, wpList P l.toArray Q (l.drop n) a' x.to) (l.take n) a) : (Code.region id l.toArray true).wp P Q a w :=
  wp_region_quiet_tail (fun w' => ∃ x : Lw w, w' = x.to) n hm hB ⟨⟨w.drew, below_drewN (Below.refl _ _) 1⟩, rfl⟩ (wpQuiet_mono (fun a' h w' ⟨x, hx⟩ => hx ▸ h x) _ _ h)
end
end Go.Tk
