/- BitsCur2 BitsCur3 BitsCur4 BitsCur5, laid as one. -/
import Derived.Test.YtgajpekolamjbaaDoorSlc
import Derived.Test.YtgajpekolamjbaaDoorBitsCur
set_option linter.unusedVariables false
set_option linter.unusedSimpArgs false
/- Cursors: take. -/
namespace Go.Proofs.YtgajpekolamjbaaDoor
open Go.RowKit Go.Tk
/-- What a take of n bytes gives, and where it leaves the cursor. -/
def tk (z : List Int) (i : Nat) (e n : Int) : List Int × Nat × Int :=
  if ¬ e = 0 then ([], i, e) else if n < 0 ∨ (z.length : Int) - i < n then ([], i, 10) else ((z.drop i).take n.toNat, i + n.toNat, 0)
theorem SlI.drop {k : IntKind} {w : World} {b o n cap : Nat} {zs : List Int} (h : SlI k w (some ⟨b, o, none⟩) n cap zs) (m : Nat) (hm : m ≤ n) : SlI k w (some ⟨b, o + m, none⟩) (n - m) (cap - m) (zs.drop m) := by
  have hl := h.len
  have hle := h.le
  have hmx := h.max
  refine ⟨by simp [hl], by omega, by omega, fun i hi => ?_⟩
  obtain ⟨b', o', e, hc⟩ := h.cell (m + i) (by omega)
  obtain ⟨rfl, rfl⟩ : b = b' ∧ o = o' := by simpa using e
  refine ⟨b, o + m, rfl, ?_⟩
  rw [Nat.add_assoc, hc]
  simp
/-- What is known behind a take: bytes where they lie. -/
def TookC (w : World) (c : Nat) (a : Option Addr) (cap : Nat) (z : List Int) (t : List Int × Nat × Int) (e' : Ending) (w' : World) : Prop :=
  ∃ a' c', e' = .returned (.slice a' t.1.length c') ∧ SlI .u8 w' a' t.1.length c' t.1 ∧ (a' = none → c' = 0) ∧ CurC w' c a cap z t.2.1 t.2.2 ∧ Kept (fun k => k = c) w w'
end Go.Proofs.YtgajpekolamjbaaDoor
/- Cursors: Raw, Byte, Fixed. -/
namespace Go.Proofs.YtgajpekolamjbaaDoor
open Go.RowKit Go.Tk
theorem Ow.rebase {k : IntKind} {e : TypeId} {base base' : Nat} {w : World} {v : Value} {zs : List Int} (h : Ow k e base w v zs) (hb : base' ≤ base) : Ow k e base' w v zs := h.mono hb
/-- What is known behind a Raw: new bytes. -/
def RawC (w : World) (c : Nat) (a : Option Addr) (cap : Nat) (z : List Int) (t : List Int × Nat × Int) (e' : Ending) (w' : World) : Prop :=
  ∃ v', e' = .returned v' ∧ Ow .u8 5 w.heap.size w' v' t.1 ∧ CurC w' c a cap z t.2.1 t.2.2 ∧ Kept (fun k => k = c) w w'
theorem tk_len (z : List Int) (i : Nat) (e n : Int) : (tk z i e n).1.length ≤ z.length := by
  unfold tk
  split
  · simp
  · split
    · simp
    · simp; omega
end Go.Proofs.YtgajpekolamjbaaDoor
/- Cursors: Byte. -/
namespace Go.Proofs.YtgajpekolamjbaaDoor
open Go.RowKit Go.Tk
theorem tk_one (z : List Int) (i : Nat) (e : Int) : (tk z i e 1).1 = [] ∨ ∃ x, (tk z i e 1).1 = [x] := by
  have : (tk z i e 1).1.length ≤ 1 := by
    unfold tk
    split
    · simp
    · split
      · simp
      · simp; omega
  match h : (tk z i e 1).1, this with
  | [], _ => exact .inl rfl
  | [x], _ => exact .inr ⟨x, rfl⟩
end Go.Proofs.YtgajpekolamjbaaDoor
/- Cursors: Fixed. -/
namespace Go.Proofs.YtgajpekolamjbaaDoor
open Go.RowKit Go.Tk
/-- The number of so many first bytes. -/
def fxA (l : List Int) : Nat → Int
  | 0 => 0
  | k + 1 => bits .or .u64 (fxA l k) (IntKind.u64.wrap (l.getD k 0 * 2 ^ (8 * k)))
theorem tk_fix (z : List Int) (i : Nat) (e : Int) (k : Nat) (hz : ∀ x ∈ z, 0 ≤ x ∧ x < 256) : (tk z i e k).1.length ≤ k ∧ ∀ x ∈ (tk z i e k).1, 0 ≤ x ∧ x < 256 := by
  unfold tk
  split
  · simp
  · split
    · simp
    · refine ⟨by simp; omega, fun x hx => hz x (List.mem_of_mem_drop (List.mem_of_mem_take hx))⟩
end Go.Proofs.YtgajpekolamjbaaDoor
