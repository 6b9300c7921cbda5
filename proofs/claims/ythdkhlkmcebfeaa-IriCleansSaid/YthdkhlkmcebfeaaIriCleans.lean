/- IriCleans: the program's Clean is the document's. -/
import Derived.Test.YthdkhlkmcebfeaaIriRClean
namespace Go.Proofs.Ythdkhlkmcebfeaa
open Go.RowKit Go.Tk
theorem iricleans_go (w : World) (s : ByteArray) (hs : s.size ≤ 140737488351232) :
    Calls Try.prog 3 #[.string s] w fun e w' => e = .returned (.bool true) ∧ Below w.heap.size w w' := by
  go_enter Try.func3, Try.ntmps3
  go_wp2_with fail
  refine (clean_calls _ _ hs).mono ?_
  rintro e w1 ⟨rfl, b1⟩
  go_wp2_with fail
  refine (rclean_calls _ _ hs).mono ?_
  rintro e w2 ⟨rfl, b2⟩
  go_wp2_with fail
  go_ret
  have b3 := b1.trans (b2.mono b1.size)
  exact ⟨rfl, b3⟩
end Go.Proofs.Ythdkhlkmcebfeaa
