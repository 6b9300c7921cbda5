/- IriChecks: Reference and Check are the document's. -/
import Derived.Test.YthdkhlkmcebfeaaIriRef
namespace Go.Proofs.Ythdkhlkmcebfeaa
open Go.RowKit Go.Tk
theorem irichecks_go (w : World) (s : ByteArray) (hs : s.size ≤ 140737488351232) :
    Calls Try.prog 5 #[.string s] w fun e w' => e = .returned (.bool true) ∧ Below w.heap.size w w' := by
  go_enter Try.func5, Try.ntmps5
  go_wp2_with (first
    | (go_at_call 18; refine (reference_calls _ _ hs).mono ?_; rintro e w1 ⟨rfl, b1⟩)
    | (go_at_call 19; refine (rreference_calls _ _ hs).mono ?_; rintro e w2 ⟨rfl, b2⟩)
    | (go_at_call 20; refine (icheck_calls _ _ hs).mono ?_; rintro e w3 ⟨rfl, b3⟩)
    | (go_at_call 21; refine (ircheck_calls _ _ hs).mono ?_; rintro e w4 ⟨rfl, b4⟩))
  go_ret
  have b5 := b1.trans (b2.mono b1.size)
  have b6 := b5.trans (b3.mono b5.size)
  exact ⟨rfl, b6.trans (b4.mono b6.size)⟩
end Go.Proofs.Ythdkhlkmcebfeaa
