/- BitsCur2 BitsCur3, laid as one. -/
import Derived.Test.YtgajpekolamjbaaSlc
import Derived.Test.YtgajpekolamjbaaBitsCur
set_option linter.unusedVariables false
set_option linter.unusedSimpArgs false
/- Cursors: take. -/
namespace Go.Proofs.Ytgajpekolamjbaa
open Go.RowKit Go.Tk
/-- What a take of n bytes gives, and where it leaves the cursor. -/
def tk (z : List Int) (i : Nat) (e n : Int) : List Int × Nat × Int :=
  if ¬ e = 0 then ([], i, e) else if n < 0 ∨ (z.length : Int) - i < n then ([], i, 10) else ((z.drop i).take n.toNat, i + n.toNat, 0)
theorem SlI.drop {k : IntKind} {w : World} {b o n cap : Nat} {zs : List Int} (h : SlI k w (some ⟨b, o, none⟩) n cap zs) (m : Nat) (hm : m ≤ n) : SlI k w (some ⟨b, o + m, none⟩) (n - m) (cap - m) (zs.drop m) := by
  have hl := h.len
  have hle := h.le
  have hmx := h.max
  refine ⟨by simp [hl], by omega, by omega, fun i hi => ?_⟩
  obtain ⟨b', o', e, hc⟩ := h.cell (m + i) (by omega)
  obtain ⟨rfl, rfl⟩ : b = b' ∧ o = o' := by simpa using e
  refine ⟨b, o + m, rfl, ?_⟩
  rw [Nat.add_assoc, hc]
  simp
/-- What is known behind a take: bytes where they lie. -/
def TookC (w : World) (c : Nat) (a : Option Addr) (cap : Nat) (z : List Int) (t : List Int × Nat × Int) (e' : Ending) (w' : World) : Prop :=
  ∃ a' c', e' = .returned (.slice a' t.1.length c') ∧ SlI .u8 w' a' t.1.length c' t.1 ∧ (a' = none → c' = 0) ∧ CurC w' c a cap z t.2.1 t.2.2 ∧ Kept (fun k => k = c) w w'
end Go.Proofs.Ytgajpekolamjbaa
/- Cursors: Raw, Byte, Fixed. -/
namespace Go.Proofs.Ytgajpekolamjbaa
open Go.RowKit Go.Tk
theorem Ow.rebase {k : IntKind} {e : TypeId} {base base' : Nat} {w : World} {v : Value} {zs : List Int} (h : Ow k e base w v zs) (hb : base' ≤ base) : Ow k e base' w v zs := h.mono hb
/-- What is known behind a Raw: new bytes. -/
def RawC (w : World) (c : Nat) (a : Option Addr) (cap : Nat) (z : List Int) (t : List Int × Nat × Int) (e' : Ending) (w' : World) : Prop :=
  ∃ v', e' = .returned v' ∧ Ow .u8 5 w.heap.size w' v' t.1 ∧ CurC w' c a cap z t.2.1 t.2.2 ∧ Kept (fun k => k = c) w w'
theorem tk_len (z : List Int) (i : Nat) (e n : Int) : (tk z i e n).1.length ≤ z.length := by
  unfold tk
  split
  · simp
  · split
    · simp
    · simp; omega
end Go.Proofs.Ytgajpekolamjbaa
