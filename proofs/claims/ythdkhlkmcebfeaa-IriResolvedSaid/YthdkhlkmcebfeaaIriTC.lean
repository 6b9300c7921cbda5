/- IriClean: a cleaned path has no dot segments and stays. -/
import Derived.Test.YthdkhlkmcebfeaaIriDots
import Derived.Test.YthdkhlkmcebfeaaIriAwake
set_option linter.unusedVariables false
set_option linter.unusedSimpArgs false
namespace Go.Proofs.Ythdkhlkmcebfeaa
open Go.RowKit Go.Tk
set_option maxRecDepth 100000 in
theorem iriclean_go (w : World) (s : ByteArray) (hs : s.size ≤ 140737488351232) :
    Calls Try.prog 10 #[.string s] w fun e w' => e = .returned (.bool true) ∧ Below w.heap.size w w' := by
  have hcl := fun w => clean_calls s w hs
  have hds := fun w => dots_calls s w (by omega)
  have hlen := cl_len s.data.toList
  have hdc := cl_dots s.data.toList
  have hkeep : dotsB s.data.toList = false → cl s.data.toList [] = s.data.toList := cl_keep
  obtain ⟨c, hc⟩ : ∃ c, c = cl s.data.toList [] := ⟨_, rfl⟩
  rw [← hc] at hcl hlen hdc hkeep
  obtain ⟨cB, hcB⟩ : ∃ cB : ByteArray, cB = ⟨c.toArray⟩ := ⟨_, rfl⟩
  have hcd : cB.data.toList = c := by rw [hcB]
  have hcz : cB.size ≤ s.size := by rw [Lib.size_eq, Lib.size_eq, hcd]; exact hlen
  rw [← hcB] at hcl
  have hcl2 : ∀ w, Calls Try.prog 14 #[.string cB] w fun e w' => e = .returned (.string cB) ∧ Below w.heap.size w w' := fun w => by
    have := clean_calls cB w (by omega)
    rw [hcd, cl_keep hdc, ← hcB] at this
    exact this
  have hds2 : ∀ w, Calls Try.prog 31 #[.string cB] w fun e w' => e = .returned (.bool false) ∧ Below w.heap.size w w' := fun w => by
    have := dots_calls cB w (by omega)
    rw [hcd, hdc] at this
    exact this
  obtain ⟨d, hd⟩ : ∃ d, d = dotsB s.data.toList := ⟨_, rfl⟩
  rw [← hd] at hds hkeep
  have hk2 : d = false → cB = s := fun h => byte_ext (by rw [hcd, hkeep h])
  have ecc : (cB.toList == cB.toList) = true := by simp
  have HCL := Lib.hid hcl
  have HCL2 := Lib.hid hcl2
  have HDS := Lib.hid hds
  have HDS2 := Lib.hid hds2
  have HK2 := Lib.hid hk2
  clear hcl hcl2 hds hds2 hlen hdc hkeep hc hcB hcd hd hk2
  cases d with
  | true =>
    go_enter Try.func10, Try.ntmps10
    go_wp2_with fail
    refine (awake_calls _).mono ?_
    rintro e w1 ⟨rfl, hb1⟩
    go_wp2_with fail
    refine (HCL.out _).mono ?_
    rintro e w2 ⟨rfl, hb2⟩
    have b2 := Lib.hid (hb1.trans (hb2.mono hb1.size))
    clear hb1 hb2
    go_wp2_with fail
    refine (HDS2.out _).mono ?_
    rintro e w3 ⟨rfl, hb3⟩
    have b3 := Lib.hid (b2.out.trans (hb3.mono b2.out.size))
    clear hb3
    go_wp2_with fail
    refine (HCL2.out _).mono ?_
    rintro e w4 ⟨rfl, hb4⟩
    have b4 := Lib.hid (b3.out.trans (hb4.mono b3.out.size))
    clear hb4
    go_wp2_with fail
    refine (HDS.out _).mono ?_
    rintro e w5 ⟨rfl, hb5⟩
    have b5 := Lib.hid (b4.out.trans (hb5.mono b4.out.size))
    clear hb5
    go_wp2_with fail
    go_ret
    exact ⟨rfl, b5.out⟩
  | false =>
    obtain rfl := HK2.out rfl
    go_enter Try.func10, Try.ntmps10
    go_wp2_with fail
    refine (awake_calls _).mono ?_
    rintro e w1 ⟨rfl, hb1⟩
    go_wp2_with fail
    refine (HCL.out _).mono ?_
    rintro e w2 ⟨rfl, hb2⟩
    have b2 := Lib.hid (hb1.trans (hb2.mono hb1.size))
    clear hb1 hb2
    go_wp2_with fail
    refine (HDS2.out _).mono ?_
    rintro e w3 ⟨rfl, hb3⟩
    have b3 := Lib.hid (b2.out.trans (hb3.mono b2.out.size))
    clear hb3
    go_wp2_with fail
    refine (HCL2.out _).mono ?_
    rintro e w4 ⟨rfl, hb4⟩
    have b4 := Lib.hid (b3.out.trans (hb4.mono b3.out.size))
    clear hb4
    go_wp2_with fail
    refine (HDS.out _).mono ?_
    rintro e w5 ⟨rfl, hb5⟩
    have b5 := Lib.hid (b4.out.trans (hb5.mono b4.out.size))
    clear hb5
    go_wp2_with fail
    go_ret
    exact ⟨rfl, b5.out⟩
end Go.Proofs.Ythdkhlkmcebfeaa
