/- A slice of bools that reads; one that came in. -/
import Derived.Test.YtgajpekolamjbaaDoorOpen2
import Derived.Deep.Grids
set_option linter.unusedVariables false
set_option linter.unusedSimpArgs false
namespace Go.Tk
open Go Go.RowKit Go.ChangeShapes Go.WideShapes Go.ChangeAt
structure SlB (w : World) (a : Option Addr) (n cap : Nat) (l : List Bool) : Prop where
  len : l.length = n
  le : n ≤ cap
  max : cap ≤ 9223372036854775807
  cell : ∀ i, i < n → ∃ b o, a = some ⟨b, o, none⟩ ∧ w.cell? ⟨b, o + i, none⟩ = some (.bool (l.getD i false))
theorem SlB.drewN {w : World} {a : Option Addr} {n cap : Nat} {l : List Bool} (h : SlB w a n cap l) (m : Nat) : SlB (w.drewN m) a n cap l := ⟨h.len, h.le, h.max, h.cell⟩
theorem SlB.keep {w w' : World} {a : Option Addr} {n cap : Nat} {l : List Bool} (h : SlB w a n cap l) (hb : Below w.heap.size w w') : SlB w' a n cap l :=
  ⟨h.len, h.le, h.max, fun i hi => by
    obtain ⟨b, p, rfl, hc⟩ := h.cell i hi
    exact ⟨b, p, rfl, (hb.cell (p := ⟨b, p + i, none⟩) (block_lt_of_cell hc)).trans hc⟩⟩
/-- A slice of bools that came in. -/
theorem open_sbool {H : Type} {enc : TypeId × Value → H} {P : Program} {W : World} {t e : TypeId} {a : Option Addr} {len cap : Nat} {d : DataW H} {p : List MemPlace}
    (hu : P.underlying t = some (.slice e)) (hk : P.underlying e = some .bool) (hc : P.cellsOf e = 1) (hb : P.bytesOf e = 1)
    (h : DataW.Trod enc P W 0 (fun _ => true) true t (.slice a len cap) d p)
    (hs : ∀ el sp, d = .slice el sp → (el.length + sp.length) * P.bytesOf e ≤ reachBytes) :
    ∃ l, SlB W a len cap l ∧ cap ≤ 140737488351232 ∧ (a = none → cap = 0) := by
  obtain ⟨fuel, hf⟩ := h
  rcases Go.Deep.open_bools hu hk hc hf with ⟨hcs, _⟩ | ⟨x, l, c, B, hcs, _, hl, hm, hx, hcell⟩
  · simp [Value.cells] at hcs
    obtain ⟨rfl, rfl, rfl⟩ := hcs
    exact ⟨[], ⟨rfl, Nat.le_refl _, by omega, fun i hi => by omega⟩, by omega, fun _ => rfl⟩
  · simp [Value.cells] at hcs
    obtain ⟨rfl, rfl, rfl⟩ := hcs
    refine ⟨(List.range len).map B, ⟨by simp, hl, by simpa [maxLen] using hm, fun i hi => ?_⟩, ?_, fun e => by cases e⟩
    · have h1 := hcell i (by omega)
      obtain ⟨b, o, spot⟩ := x
      have hsp : spot = none := by
        have h0 := hcell 0 (by omega)
        simpa [Addr.add] using World.cell?_spot h0
      subst hsp
      refine ⟨b, o, rfl, ?_⟩
      rw [Addr.add_lit] at h1
      rw [h1]
      simp [hi]
    · simp only [Prod.mk.injEq] at hx
      have := hs _ _ (by rw [hx.1]; rfl)
      rw [hb] at this
      simp [reachBytes] at this
      omega
end Go.Tk
