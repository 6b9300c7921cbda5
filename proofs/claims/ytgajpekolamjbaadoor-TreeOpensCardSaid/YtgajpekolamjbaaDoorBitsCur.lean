/- BitsBuf4 BitsAsk BitsCur, laid as one. -/
import Derived.Test.YtgajpekolamjbaaDoorBitsBuf3
import Derived.Test.YtgajpekolamjbaaDoorCpK
import Derived.WalkSpells
import Derived.Test.YtgajpekolamjbaaDoorRankCut
set_option linter.unusedVariables false
set_option linter.unusedSimpArgs false
/- Buffers: Len, New, Bytes; the reference's New and Bytes. -/
namespace Go.Proofs.YtgajpekolamjbaaDoor
open Go.RowKit Go.Tk
/-- What Bytes answers. -/
def BytesB (w : World) (st : List Int × Bool) (e : Ending) (w' : World) : Prop := ∃ v, e = .returned (.tuple #[v, .int .i64 (if st.2 = true then 1 else 0)]) ∧ OwC .u8 5 w.heap.size w' v (if st.2 = true then [] else st.1) ∧ Kept (fun _ => False) w w'
/-- What the reference's Bytes answers. -/
def BytesR (w : World) (st : List Int × Bool) (e : Ending) (w' : World) : Prop := ∃ v, e = .returned (.tuple #[v, .int .i64 (if st.2 = true then 1 else 0)]) ∧ Ow .u8 5 w.heap.size w' v (if st.2 = true then [] else st.1) ∧ Kept (fun _ => False) w w'
end Go.Proofs.YtgajpekolamjbaaDoor
/- What a buffer has, asked twice. -/
namespace Go.Proofs.YtgajpekolamjbaaDoor
open Go.RowKit Go.Tk
theorem quiet_draw {P : Program} {f : FuncId} {args : Array Value} {w : World} {n : Nat} {v : Value}
    (h : Calls P f args (w.drewN n) fun e w' => e = .returned v ∧ ∃ m, w' = (w.drewN n).drewN m) : Calls P f args (w.drewN n) fun e w'' => e = .returned v ∧ ∃ m, w'' = w.drewN m :=
  h.mono fun _ _ ⟨he, m, hm⟩ => ⟨he, n + m, by rw [hm]; simp [World.drewN, Nat.add_assoc]⟩
theorem sameB_self (z : List Int) : sameB z z = true := by simp [sameB]
end Go.Proofs.YtgajpekolamjbaaDoor
/- Cursors: where they stand, what is left, what is wrong, the next bytes. -/
namespace Go.Proofs.YtgajpekolamjbaaDoor
open Go.RowKit Go.Tk
/-- A bits.Cursor in memory: the bytes z, the place i, the error e. -/
structure CurC (w : World) (c : Nat) (a : Option Addr) (cap : Nat) (z : List Int) (i : Nat) (e : Int) : Prop where
  blk : w.heap[c]? = some (.cells #[.slice a z.length cap, .int .i64 i, .int .i64 e] 78 (0, 0))
  sl : SlI .u8 w a z.length cap z
  nil : a = none → cap = 0
  ne : ∀ x, a = some x → x.block ≠ c
  le : i ≤ z.length
theorem CurC.drewN {w : World} {c : Nat} {a : Option Addr} {cap : Nat} {z : List Int} {i : Nat} {e : Int} (h : CurC w c a cap z i e) (n : Nat) : CurC (w.drewN n) c a cap z i e := ⟨h.blk, h.sl.drewN n, h.nil, h.ne, h.le⟩
theorem CurC.kept {S : Nat → Prop} {w w' : World} {c : Nat} {a : Option Addr} {cap : Nat} {z : List Int} {i : Nat} {e : Int} (h : CurC w c a cap z i e) (hk : Kept S w w') (hc : ¬ S c) (ha : ∀ x, a = some x → ¬ S x.block) : CurC w' c a cap z i e :=
  ⟨(hk.block c (Array.getElem?_eq_some_iff.1 h.blk).1 hc).trans h.blk, h.sl.kept hk ha, h.nil, h.ne, h.le⟩
theorem CurC.setE {w : World} {c : Nat} {a : Option Addr} {cap : Nat} {z : List Int} {i : Nat} {e : Int} (h : CurC w c a cap z i e) (e' : Int) : CurC (w.setCell ⟨c, 2, none⟩ (.int .i64 e')) c a cap z i e' :=
  ⟨by rw [heap_setCell_same w c 2 _ _ _ h.blk]; rfl, h.sl.kept ((Kept.refl (fun k => k = c) w).setCell (.inl rfl) _) h.ne, h.nil, h.ne, h.le⟩
theorem CurC.setI {w : World} {c : Nat} {a : Option Addr} {cap : Nat} {z : List Int} {i : Nat} {e : Int} (h : CurC w c a cap z i e) (i' : Nat) (hi : i' ≤ z.length) : CurC (w.setCell ⟨c, 1, none⟩ (.int .i64 i')) c a cap z i' e :=
  ⟨by rw [heap_setCell_same w c 1 _ _ _ h.blk]; rfl, h.sl.kept ((Kept.refl (fun k => k = c) w).setCell (.inl rfl) _) h.ne, h.nil, h.ne, hi⟩
section
variable {w : World} {c : Nat} {a : Option Addr} {cap : Nat} {z : List Int} {i : Nat} {e : Int}
theorem CurC.c0 (h : CurC w c a cap z i e) : w.cell? ⟨c, 0, none⟩ = some (.slice a z.length cap) := by rw [cell_of_row w c 0 _ _ _ h.blk]; rfl
theorem CurC.c1 (h : CurC w c a cap z i e) : w.cell? ⟨c, 1, none⟩ = some (.int .i64 i) := by rw [cell_of_row w c 1 _ _ _ h.blk]; rfl
theorem CurC.c2 (h : CurC w c a cap z i e) : w.cell? ⟨c, 2, none⟩ = some (.int .i64 e) := by rw [cell_of_row w c 2 _ _ _ h.blk]; rfl
theorem CurC.fr (h : CurC w c a cap z i e) (k : Nat) : w.frozen? ⟨c, k, none⟩ = false := frozen_of_row w c k _ _ h.blk
end
theorem at_calls (w : World) (c : Nat) (a : Option Addr) (cap : Nat) (z : List Int) (i : Nat) (e : Int) (h : CurC w c a cap z i e) :
    Calls Tryd.prog 13 #[.pointer (some ⟨c, 0, none⟩)] w fun e' w' => e' = .returned (.int .i64 i) ∧ w = w' := by
  have c1 := h.c1
  go_enter Tryd.func13, Tryd.ntmps13
  go_wp2
  go_ret
  exact ⟨rfl, rfl⟩
theorem err_calls (w : World) (c : Nat) (a : Option Addr) (cap : Nat) (z : List Int) (i : Nat) (e : Int) (h : CurC w c a cap z i e) :
    Calls Tryd.prog 26 #[.pointer (some ⟨c, 0, none⟩)] w fun e' w' => e' = .returned (.int .i64 e) ∧ w = w' := by
  have c2 := h.c2
  go_enter Tryd.func26, Tryd.ntmps26
  go_wp2
  go_ret
  exact ⟨rfl, rfl⟩
/-- What End says. -/
def endE (len i : Nat) (e : Int) : Int := if e = 0 ∧ i < len then 13 else e
end Go.Proofs.YtgajpekolamjbaaDoor
