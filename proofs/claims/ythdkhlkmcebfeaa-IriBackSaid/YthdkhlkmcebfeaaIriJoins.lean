/- IriJoins: the program's Join is the document's. -/
import Derived.Test.YthdkhlkmcebfeaaIriJnR
import Derived.ProofKit
import Derived.OpenShut
import Derived.ShutString
import Derived.ChangeOld
import Derived.SizedLaws
import Derived.Lib.SmallJoins
import Derived.Test.YthdkhlkmcebfeaaOpen
set_option linter.unusedVariables false
set_option linter.unusedSimpArgs false
namespace Go.Proofs.Ythdkhlkmcebfeaa
open Go.RowKit Go.Tk
open Go.Joins Go.ChangeShapes Go.WideShapes Go.Deep
section
variable {H : Type} {enc : TypeId × Value → H} {P : Program} {w : World} {base : Nat} {spare : Nat → Bool} {held : Bool}
theorem open_agg8 {r : Reach} {b0 : Nat} {t : TypeId} {f0 f1 f2 f3 f4 f5 f6 f7 : Field} {v : Value} {d : DataW H} {p : List MemPlace} (hs : P.underlying t = some (.struct #[f0, f1, f2, f3, f4, f5, f6, f7])) (hone : oneCellFields P #[f0, f1, f2, f3, f4, f5, f6, f7] = true) (hC : P.cellsOf t = 8)
    (hv : Value.okWide P w r b0 t v) (h : DataW.Trod enc P w base spare held t v d p) :
    ∃ (v0 v1 v2 v3 v4 v5 v6 v7 : Value) (y0 y1 y2 y3 y4 y5 y6 y7 : DataW H × List MemPlace) (n : Nat), v = .agg #[v0, v1, v2, v3, v4, v5, v6, v7] ∧ d = .agg [y0.1, y1.1, y2.1, y3.1, y4.1, y5.1, y6.1, y7.1] ∧
      DataW.trod enc P w base spare held n f0.type [v0] = some y0 ∧ DataW.trod enc P w base spare held n f1.type [v1] = some y1 ∧ DataW.trod enc P w base spare held n f2.type [v2] = some y2 ∧ DataW.trod enc P w base spare held n f3.type [v3] = some y3 ∧ DataW.trod enc P w base spare held n f4.type [v4] = some y4 ∧ DataW.trod enc P w base spare held n f5.type [v5] = some y5 ∧ DataW.trod enc P w base spare held n f6.type [v6] = some y6 ∧ DataW.trod enc P w base spare held n f7.type [v7] = some y7 := by
  obtain ⟨cs, rfl, hsz⟩ := okWide_struct hs hv
  obtain ⟨l⟩ := cs
  match l, hsz.trans hC with
  | [c0, c1, c2, c3, c4, c5, c6, c7], _ =>
    obtain ⟨fuel, hf⟩ := h
    obtain ⟨xs, n, _, hx, _, hlen, hg⟩ := DataW.trod_struct hs hf
    obtain ⟨o0, k0⟩ := hone_of hone 0 f0 rfl
    obtain ⟨o1, k1⟩ := hone_of hone 1 f1 rfl
    obtain ⟨o2, k2⟩ := hone_of hone 2 f2 rfl
    obtain ⟨o3, k3⟩ := hone_of hone 3 f3 rfl
    obtain ⟨o4, k4⟩ := hone_of hone 4 f4 rfl
    obtain ⟨o5, k5⟩ := hone_of hone 5 f5 rfl
    obtain ⟨o6, k6⟩ := hone_of hone 6 f6 rfl
    obtain ⟨o7, k7⟩ := hone_of hone 7 f7 rfl
    match xs, hlen with
    | [y0, y1, y2, y3, y4, y5, y6, y7], _ =>
      simp only [Prod.mk.injEq] at hx
      exact ⟨c0, c1, c2, c3, c4, c5, c6, c7, y0, y1, y2, y3, y4, y5, y6, y7, n, rfl, by simpa using hx.1, by simpa [Value.cells, o0, k0] using hg 0 f0 rfl, by simpa [Value.cells, o1, k1] using hg 1 f1 rfl, by simpa [Value.cells, o2, k2] using hg 2 f2 rfl, by simpa [Value.cells, o3, k3] using hg 3 f3 rfl, by simpa [Value.cells, o4, k4] using hg 4 f4 rfl, by simpa [Value.cells, o5, k5] using hg 5 f5 rfl, by simpa [Value.cells, o6, k6] using hg 6 f6 rfl, by simpa [Value.cells, o7, k7] using hg 7 f7 rfl⟩
theorem str1 {n : Nat} {t : TypeId} {v : Value} {y : DataW H × List MemPlace} (ht : P.underlying t = some .string) (h : DataW.trod enc P w base spare held n t [v] = some y) : ∃ l : List UInt8, v = .string ⟨l.toArray⟩ ∧ y.1 = .lit (.string l) := by
  obtain ⟨s, hc, rfl, _⟩ := DataW.trod_string ht h
  exact ⟨s.data.toList, by simpa using hc, rfl⟩
theorem bool1 {n : Nat} {t : TypeId} {v : Value} {y : DataW H × List MemPlace} (ht : P.underlying t = some .bool) (h : DataW.trod enc P w base spare held n t [v] = some y) : ∃ b : Bool, v = .bool b := by
  obtain ⟨b, hc, _⟩ := DataW.trod_bool ht h
  exact ⟨b, by simpa using hc⟩
end
set_option maxRecDepth 100000 in
/-- A value of the parts, opened: its fields, and the bounds of its five texts. -/
theorem open_parts {H : Type} {enc : TypeId × Value → H} {W : World} {r : Reach} {b0 base : Nat} {spare : Nat → Bool} {held : Bool} {v : Value} {d : DataW H} {p : List MemPlace}
    (hv : Value.okWide Try.prog W r b0 34 v) (h : DataW.Trod enc Try.prog W base spare held 34 v d p) (hs : ∀ n ∈ d.weights Try.prog 34, n ≤ reachBytes) :
    ∃ (sc au pa qu fr : List UInt8) (xa xq xf : Bool), v = .agg #[.string ⟨sc.toArray⟩, .string ⟨au.toArray⟩, .string ⟨pa.toArray⟩, .string ⟨qu.toArray⟩, .string ⟨fr.toArray⟩, .bool xa, .bool xq, .bool xf] ∧
      sc.length ≤ 140737488351232 ∧ au.length ≤ 140737488351232 ∧ pa.length ≤ 140737488351232 ∧ qu.length ≤ 140737488351232 ∧ fr.length ≤ 140737488351232 := by
  obtain ⟨v0, v1, v2, v3, v4, v5, v6, v7, y0, y1, y2, y3, y4, y5, y6, y7, n, rfl, rfl, h0, h1, h2, h3, h4, h5, h6, h7⟩ := open_agg8 Try.underlying34 (by kernel_rfl) (by kernel_rfl) hv h
  obtain ⟨sc, rfl, e0⟩ := str1 Try.underlying9 h0
  obtain ⟨au, rfl, e1⟩ := str1 Try.underlying9 h1
  obtain ⟨pa, rfl, e2⟩ := str1 Try.underlying9 h2
  obtain ⟨qu, rfl, e3⟩ := str1 Try.underlying9 h3
  obtain ⟨fr, rfl, e4⟩ := str1 Try.underlying9 h4
  obtain ⟨xa, rfl⟩ := bool1 Try.underlying4 h5
  obtain ⟨xq, rfl⟩ := bool1 Try.underlying4 h6
  obtain ⟨xf, rfl⟩ := bool1 Try.underlying4 h7
  simp only [DataW.weights, Try.underlying34, e0, e1, e2, e3, e4, List.map_cons, DataW.weightsEach, List.mem_append, List.mem_singleton] at hs
  refine ⟨sc, au, pa, qu, fr, xa, xq, xf, rfl, ?_, ?_, ?_, ?_, ?_⟩
  · exact hs _ (by simp)
  · exact hs _ (by simp)
  · exact hs _ (by simp)
  · exact hs _ (by simp)
  · exact hs _ (by simp)
theorem irijoins_go (w : World) (v : Value) (sc au pa qu fr : List UInt8) (xa xq xf : Bool) (hv : v = .agg #[.string ⟨sc.toArray⟩, .string ⟨au.toArray⟩, .string ⟨pa.toArray⟩, .string ⟨qu.toArray⟩, .string ⟨fr.toArray⟩, .bool xa, .bool xq, .bool xf])
    (hz : sc.length + au.length + pa.length + qu.length + fr.length ≤ 1000000000000000) :
    Calls Try.prog 7 #[v] w fun e w' => e = .returned (.bool true) ∧ Below w.heap.size w w' := by
  subst hv
  have h1 := fun w => iJoin_calls sc au pa qu fr xa xq xf w hz
  have h2 := fun w => rJoin_calls sc au pa qu fr xa xq xf w hz
  obtain ⟨rs, hrs⟩ : ∃ rs, rs = joinE ⟨sc, au, pa, qu, fr, xa, xq, xf⟩ := ⟨_, rfl⟩
  rw [← hrs] at h1 h2
  obtain ⟨bx, hbx⟩ : ∃ bx : ByteArray, bx = ⟨rs.1.toArray⟩ := ⟨_, rfl⟩
  rw [← hbx] at h1 h2
  obtain ⟨c, hc⟩ : ∃ c, c = rs.2 := ⟨_, rfl⟩
  rw [← hc] at h1 h2
  have e1 : (bx.toList == bx.toList) = true := by simp
  have e2 : (c == c) = true := by simp
  have H1 := Lib.hid h1
  have H2 := Lib.hid h2
  have hi8 : (Try.prog.info? 34).map (·.size) = some 8 := by kernel_rfl
  have HI8 := Lib.hid hi8
  have ha := heap_alloc_new w (.cells #[.string ⟨sc.toArray⟩, .string ⟨au.toArray⟩, .string ⟨pa.toArray⟩, .string ⟨qu.toArray⟩, .string ⟨fr.toArray⟩, .bool xa, .bool xq, .bool xf] 34)
  have hba : Below w.heap.size w (w.alloc (.cells #[.string ⟨sc.toArray⟩, .string ⟨au.toArray⟩, .string ⟨pa.toArray⟩, .string ⟨qu.toArray⟩, .string ⟨fr.toArray⟩, .bool xa, .bool xq, .bool xf] 34)) := (Below.refl _ _).alloc (Nat.le_refl _) _
  have HA := Lib.hid ha
  have HBA := Lib.hid hba
  clear hc hbx hrs h1 h2 hi8 ha hba hz
  go_enter Try.func7, Try.ntmps7
  go_wp2_with (first
    | (refine wpList_load_row rfl 34 (.tmp 1) rfl w.heap.size rfl _ _ _ _ HA.out Try.underlying34 rfl HI8.out ?_))
  refine (H1.out _).mono ?_
  rintro e w1 ⟨rfl, hb1⟩
  have z2 := lt_of_block HA.out
  have r1 := (hb1.block w.heap.size z2).trans HA.out
  have b1 := HBA.out.trans (hb1.mono HBA.out.size)
  have R1 := Lib.hid r1
  clear hb1 r1
  go_wp2_with (first
    | (refine wpList_load_row rfl 34 (.tmp 1) rfl w.heap.size rfl _ _ _ _ R1.out Try.underlying34 rfl HI8.out ?_))
  refine (H2.out _).mono ?_
  rintro e w2 ⟨rfl, hb2⟩
  have b2 := b1.trans (hb2.mono b1.size)
  go_wp2_with fail
  go_ret
  exact ⟨rfl, b2⟩
end Go.Proofs.Ythdkhlkmcebfeaa
