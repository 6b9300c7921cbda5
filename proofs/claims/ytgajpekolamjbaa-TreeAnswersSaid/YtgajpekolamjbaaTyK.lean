/- Opening a []Ask: each element's seven cells. -/
import Derived.Test.YtgajpekolamjbaaOpen
import Derived.Test.YtgajpekolamjbaaTrO
import Derived.Test.YtgajpekolamjbaaTvM
import Derived.Test.YtgajpekolamjbaaProg
import Derived.Deep.Slices
set_option linter.unusedVariables false
set_option linter.unusedSimpArgs false
namespace Go.Proofs.Ytgajpekolamjbaa
open Go.RowKit Go.Tk Go.ChangeShapes Go.WideShapes Go.ChangeAt
/-- One question. -/
structure AskV where
  kind : Int
  n : Int
  q : Qd
  most : Int
deriving Inhabited
structure AskOk (w : World) (b o : Nat) (v : AskV) : Prop where
  c0 : w.cell? ⟨b, o, none⟩ = some (.int .i64 v.kind)
  c1 : w.cell? ⟨b, o + 1, none⟩ = some (.int .i64 v.n)
  cq : ∀ j, j < 4 → w.cell? ⟨b, o + 2 + j, none⟩ = some (.int .i64 (v.q.at j))
  c6 : w.cell? ⟨b, o + 6, none⟩ = some (.int .i64 v.most)
  nr : -9223372036854775808 ≤ v.n ∧ v.n ≤ 9223372036854775807
  mr : -9223372036854775808 ≤ v.most ∧ v.most ≤ 9223372036854775807
structure AsksAt (w : World) (a : Option Addr) (n cap : Nat) (asks : Nat → AskV) : Prop where
  le : n ≤ cap
  max : cap ≤ 9223372036854775807
  at_ : ∀ i, i < n → ∃ b o, a = some ⟨b, o, none⟩ ∧ AskOk w b (o + i * 7) (asks i)
theorem AskOk.below {w w' : World} {b o : Nat} {v : AskV} (h : AskOk w b o v) (hb : Below w.heap.size w w') : AskOk w' b o v := by
  have hl := block_lt_of_cell h.c0
  exact ⟨(hb.cell (p := ⟨b, o, none⟩) hl).trans h.c0, (hb.cell (p := ⟨b, o + 1, none⟩) hl).trans h.c1, fun j hj => (hb.cell (p := ⟨b, o + 2 + j, none⟩) hl).trans (h.cq j hj), (hb.cell (p := ⟨b, o + 6, none⟩) hl).trans h.c6, h.nr, h.mr⟩
theorem AsksAt.below {w w' : World} {a : Option Addr} {n cap : Nat} {asks : Nat → AskV} (h : AsksAt w a n cap asks) (hb : Below w.heap.size w w') : AsksAt w' a n cap asks :=
  ⟨h.le, h.max, fun i hi => by obtain ⟨b, o, e, k⟩ := h.at_ i hi; exact ⟨b, o, e, k.below hb⟩⟩
theorem seven {α : Type} {l : List α} (h : l.length = 7) : ∃ a b c d e f g, l = [a, b, c, d, e, f, g] := by
  match l, h with
  | [a, b, c, d, e, f, g], _ => exact ⟨a, b, c, d, e, f, g, rfl⟩
theorem fourx {α : Type} {l : List α} (h : l.length = 4) : ∃ a b c d, l = [a, b, c, d] := by
  match l, h with
  | [a, b, c, d], _ => exact ⟨a, b, c, d, rfl⟩
theorem open_asks {H : Type} {enc : TypeId × Value → H} {W : World} {a : Option Addr} {len cap : Nat} {d : DataW H} {p : List MemPlace}
    (h : DataW.Trod enc Try.prog W 0 (fun _ => true) true 35 (.slice a len cap) d p) :
    ∃ asks, AsksAt W a len cap asks := by
  obtain ⟨fuel, hf⟩ := h
  rcases Deep.open_slice Try.underlying35 hf with ⟨hcs, hx⟩ | ⟨x, l, c, m, n, D, Pl, hcs, _, hl, hm, hmm, hx, hel⟩
  · simp [Value.cells] at hcs
    obtain ⟨rfl, rfl, rfl⟩ := hcs
    exact ⟨fun _ => default, ⟨Nat.le_refl _, by omega, fun i hi => by omega⟩⟩
  · simp [Value.cells] at hcs
    obtain ⟨rfl, rfl, rfl⟩ := hcs
    simp only [if_true] at hmm
    subst hmm
    have hc3 : Try.prog.cellsOf 49 = 7 := by kernel_rfl
    have h4 : Try.prog.cellsOf 24 = 4 := by kernel_rfl
    have h1 : Try.prog.cellsOf 3 = 1 := by kernel_rfl
    have hel' : ∀ i, i < m → ∃ cs', W.cells? 0 (x.add (i * 7)) 7 = some cs' ∧ DataW.trod enc Try.prog W 0 (fun _ => true) true n 49 cs' = some (D i, Pl i) := by rw [hc3] at hel; exact hel
    clear hel
    have one : ∀ i, i < len → ∃ v : AskV, ∃ b o, x = ⟨b, o, none⟩ ∧ AskOk W b (o + i * 7) v := by
      intro i hi
      obtain ⟨cs', hcs', htr⟩ := hel' i (by omega)
      obtain ⟨_, hlen, hcell⟩ := World.cells?_some hcs'
      obtain ⟨xs, n', _, hxx, _, hxl, hfs⟩ := DataW.trod_struct Try.underlying49 htr
      obtain ⟨v0, v1, v2, v3, v4, v5, v6, rfl⟩ := seven hlen
      obtain ⟨y0, y1, y2, y3, rfl⟩ := fourx (l := xs) (by simpa using hxl)
      have f0 : DataW.trod enc Try.prog W 0 (fun _ => true) true n' 3 (([v0, v1, v2, v3, v4, v5, v6].drop 0).take (Try.prog.cellsOf 3)) = some y0 := hfs 0 _ rfl
      have f1 : DataW.trod enc Try.prog W 0 (fun _ => true) true n' 3 (([v0, v1, v2, v3, v4, v5, v6].drop 1).take (Try.prog.cellsOf 3)) = some y1 := hfs 1 _ rfl
      have f2 : DataW.trod enc Try.prog W 0 (fun _ => true) true n' 24 (([v0, v1, v2, v3, v4, v5, v6].drop 2).take (Try.prog.cellsOf 24)) = some y2 := hfs 2 _ rfl
      have f3 : DataW.trod enc Try.prog W 0 (fun _ => true) true n' 3 (([v0, v1, v2, v3, v4, v5, v6].drop 6).take (Try.prog.cellsOf 3)) = some y3 := hfs 3 _ rfl
      rw [h1] at f0 f1 f3
      rw [h4] at f2
      obtain ⟨k0, e0, _, w0⟩ := DataW.trod_int Try.underlying3 (x := y0) f0
      obtain ⟨k1, e1, _, w1⟩ := DataW.trod_int Try.underlying3 (x := y1) f1
      obtain ⟨kq, eq, _⟩ := trod_ids f2
      obtain ⟨k2, e2, _, w2⟩ := DataW.trod_int Try.underlying3 (x := y3) f3
      simp at e0 e1 e2
      simp [qcs] at eq
      subst e0 e1 e2
      obtain ⟨rfl, rfl, rfl, rfl⟩ := eq
      have c0 := hcell 0 (by omega)
      have c1 := hcell 1 (by omega)
      have c2 := hcell 2 (by omega)
      have c3 := hcell 3 (by omega)
      have c4 := hcell 4 (by omega)
      have c5 := hcell 5 (by omega)
      have c6 := hcell 6 (by omega)
      rw [Deep.add_add] at c0 c1 c2 c3 c4 c5 c6
      obtain ⟨b, o, spot⟩ := x
      have hsp : spot = none := by
        obtain ⟨cs0, hcs0, _⟩ := hel' 0 (by omega)
        obtain ⟨_, hl0, hc0⟩ := World.cells?_some hcs0
        have := hc0 0 (by omega)
        obtain ⟨u, hu⟩ : ∃ u, cs0[0]? = some u := ⟨cs0[0], by simp [hl0]⟩
        rw [hu] at this
        simpa [Addr.add] using World.cell?_spot this
      subst hsp
      rw [Addr.add_lit] at c0 c1 c2 c3 c4 c5 c6
      refine ⟨⟨k0, k1, kq, k2⟩, b, o, rfl, by simpa using c0, by simpa [Nat.add_assoc] using c1, fun j hj => ?_, by simpa [Nat.add_assoc] using c6, wf_i64 w1, wf_i64 w2⟩
      rcases (by omega : j = 0 ∨ j = 1 ∨ j = 2 ∨ j = 3) with rfl | rfl | rfl | rfl
      · simpa [Nat.add_assoc, Qd.at] using c2
      · simpa [Nat.add_assoc, Qd.at] using c3
      · simpa [Nat.add_assoc, Qd.at] using c4
      · simpa [Nat.add_assoc, Qd.at] using c5
    obtain ⟨asks, hops⟩ := Deep.choose_lt (α := AskV) one
    refine ⟨asks, ⟨hl, hm, fun i hi => ?_⟩⟩
    obtain ⟨b, o, rfl, hk⟩ := hops i hi
    exact ⟨b, o, rfl, hk⟩
end Go.Proofs.Ytgajpekolamjbaa
