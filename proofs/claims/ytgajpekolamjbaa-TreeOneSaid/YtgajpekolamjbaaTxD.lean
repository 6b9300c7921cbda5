/- TrO TxD, laid as one. -/
import Derived.Test.YtgajpekolamjbaaTrA
import Derived.Test.YtgajpekolamjbaaOpen
import Derived.Deep.Slices
import Derived.OpenShut
set_option linter.unusedVariables false
set_option linter.unusedSimpArgs false
/- Opening a []api.Ids: each element's four cells. -/
namespace Go.Tk
open Go Go.RowKit
def QdOk (q : Qd) : Prop := ∀ k, -9223372036854775808 ≤ q.at k ∧ q.at k ≤ 9223372036854775807
end Go.Tk
namespace Go.Proofs.Ytgajpekolamjbaa
open Go.RowKit Go.Tk Go.ChangeShapes Go.WideShapes Go.ChangeAt
theorem four_l {α : Type} {l : List α} (h : l.length = 4) : ∃ a b c d, l = [a, b, c, d] := by
  match l, h with
  | [a, b, c, d], _ => exact ⟨a, b, c, d, rfl⟩
set_option maxRecDepth 100000 in
theorem trod_ids {H : Type} {enc : TypeId × Value → H} {W : World} {n : Nat} {cs' : List Value} {D : DataW H × List MemPlace} (htr : DataW.trod enc Try.prog W 0 (fun _ => true) true n 24 cs' = some D) : ∃ q : Qd, cs' = qcs q ∧ QdOk q := by
  obtain ⟨xs, n', _, _, hlen, hxl, hfs⟩ := DataW.trod_array Try.underlying24 htr
  have h4 : Try.prog.cellsOf 24 = 4 := by kernel_rfl
  have h1 : Try.prog.cellsOf 3 = 1 := by kernel_rfl
  rw [h4] at hlen
  obtain ⟨v0, v1, v2, v3, rfl⟩ := four_l hlen
  obtain ⟨y0, y1, y2, y3, rfl⟩ := four_l hxl
  have f0 := hfs 0 (by omega)
  have f1 := hfs 1 (by omega)
  have f2 := hfs 2 (by omega)
  have f3 := hfs 3 (by omega)
  rw [h1] at f0 f1 f2 f3
  obtain ⟨k0, e0, _, w0⟩ := DataW.trod_int Try.underlying3 (x := y0) f0
  obtain ⟨k1, e1, _, w1⟩ := DataW.trod_int Try.underlying3 (x := y1) f1
  obtain ⟨k2, e2, _, w2⟩ := DataW.trod_int Try.underlying3 (x := y2) f2
  obtain ⟨k3, e3, _, w3⟩ := DataW.trod_int Try.underlying3 (x := y3) f3
  simp at e0 e1 e2 e3
  subst e0 e1 e2 e3
  refine ⟨⟨k0, k1, k2, k3⟩, rfl, fun k => ?_⟩
  match k with
  | 0 => exact wf_i64 w0
  | 1 => exact wf_i64 w1
  | 2 => exact wf_i64 w2
  | _ + 3 => exact wf_i64 w3
theorem open_quads {H : Type} {enc : TypeId × Value → H} {W : World} {a : Option Addr} {len cap : Nat} {d : DataW H} {p : List MemPlace}
    (h : DataW.Trod enc Try.prog W 0 (fun _ => true) true 22 (.slice a len cap) d p)
    (hs : ∀ el sp, d = .slice el sp → (el.length + sp.length) * Try.prog.bytesOf 24 ≤ reachBytes) :
    ∃ L, SlQ W a len cap L ∧ (a = none → cap = 0) ∧ (∀ q ∈ L, QdOk q) ∧ cap ≤ 4398046510976 := by
  obtain ⟨fuel, hf⟩ := h
  rcases Deep.open_slice Try.underlying22 hf with ⟨hcs, hx⟩ | ⟨x, l, c, m, n, D, Pl, hcs, _, hl, hm, hmm, hx, hel⟩
  · simp [Value.cells] at hcs
    obtain ⟨rfl, rfl, rfl⟩ := hcs
    exact ⟨[], ⟨rfl, Nat.le_refl _, by omega, fun i hi => by omega⟩, fun _ => rfl, (fun q hq => by cases hq), by omega⟩
  · simp [Value.cells] at hcs
    obtain ⟨rfl, rfl, rfl⟩ := hcs
    simp only [if_true] at hmm
    subst hmm
    have hc4 : Try.prog.cellsOf 24 = 4 := by kernel_rfl
    have hel' : ∀ i, i < m → ∃ cs', W.cells? 0 (x.add (i * 4)) 4 = some cs' ∧ DataW.trod enc Try.prog W 0 (fun _ => true) true n 24 cs' = some (D i, Pl i) := by rw [hc4] at hel; exact hel
    clear hel
    have one : ∀ i, i < len → ∃ q : Qd, (∃ b o, x = ⟨b, o, none⟩ ∧ W.rangeAt b (o + i * 4) (qcs q)) ∧ QdOk q := by
      intro i hi
      obtain ⟨cs', hcs', htr⟩ := hel' i (by omega)
      obtain ⟨_, hlen, hcell⟩ := World.cells?_some hcs'
      obtain ⟨q, rfl, hq⟩ := trod_ids htr
      obtain ⟨b, o, spot⟩ := x
      have hsp : spot = none := by
        obtain ⟨cs0, hcs0, _⟩ := hel' 0 (by omega)
        obtain ⟨_, hl0, hc0⟩ := World.cells?_some hcs0
        have := hc0 0 (by omega)
        obtain ⟨u, hu⟩ : ∃ u, cs0[0]? = some u := ⟨cs0[0], by simp [hl0]⟩
        rw [hu] at this
        simpa [Addr.add] using World.cell?_spot this
      subst hsp
      refine ⟨q, ⟨b, o, rfl, fun j v hv => ?_⟩, hq⟩
      have hj : j < 4 := by have := (List.getElem?_eq_some_iff.1 hv).1; simpa [qcs] using this
      have := hcell j hj
      rw [Deep.add_add, Addr.add_lit, hv] at this
      rw [← this, Nat.add_assoc]
    obtain ⟨qs, hops⟩ := Deep.choose_lt (α := Qd) one
    refine ⟨(List.range len).map qs, ⟨by simp, hl, by simpa [maxLen] using hm, fun i hi => ?_⟩, (fun e => by cases e), fun q hq => ?_, ?_⟩
    · obtain ⟨⟨b, o, rfl, hk⟩, _⟩ := hops i hi
      refine ⟨b, o, rfl, ?_⟩
      have : ((List.range len).map qs).getD i default = qs i := by simp [hi]
      rw [this]; exact hk
    · obtain ⟨i, hi, rfl⟩ := List.mem_map.1 hq
      exact (hops i (List.mem_range.1 hi)).2
    · simp only [Prod.mk.injEq] at hx
      have := hs _ _ (by rw [hx.1])
      have hb : Try.prog.bytesOf 24 = 32 := by kernel_rfl
      rw [hb] at this
      simp [reachBytes] at this
      omega
end Go.Proofs.Ytgajpekolamjbaa
/- Opening an api.Ids argument. -/
namespace Go.Proofs.Ytgajpekolamjbaa
open Go.RowKit Go.Tk Go.ChangeShapes Go.WideShapes Go.ChangeAt
set_option maxRecDepth 100000 in
theorem okWide_ids {W : World} {r : Reach} {base : Nat} {v : Value} (h : Value.okWide Try.prog W r base 24 v) : ∃ cs, v = .agg cs := by
  rcases v with _ | _
  all_goals first | exact ⟨_, rfl⟩ | (exfalso; revert h; simp [Value.okWide, Try.underlying24])
set_option maxRecDepth 100000 in
theorem open_ids {H : Type} {enc : TypeId × Value → H} {W : World} {base : Nat} {r : Reach} {v : Value} {d : DataW H} {p : List MemPlace}
    (hv : Value.okWide Try.prog W r base 24 v) (h : DataW.Trod enc Try.prog W 0 (fun _ => true) true 24 v d p) : ∃ q : Qd, v = .agg #[.int .i64 q.a, .int .i64 q.b, .int .i64 q.c, .int .i64 q.d] ∧ QdOk q := by
  obtain ⟨cs, rfl⟩ := okWide_ids hv
  obtain ⟨fuel, hf⟩ := h
  obtain ⟨q, hq, ho⟩ := trod_ids hf
  refine ⟨q, ?_, ho⟩
  have : cs.toList = qcs q := by simpa [Value.cells] using hq
  have : cs = (qcs q).toArray := by rw [← this]
  rw [this]; rfl
end Go.Proofs.Ytgajpekolamjbaa
