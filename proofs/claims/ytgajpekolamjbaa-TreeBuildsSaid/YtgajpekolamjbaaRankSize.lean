/- rank.Size and the document's Size: one number. -/
import Derived.Test.YtgajpekolamjbaaRankCut
set_option linter.unusedVariables false
set_option linter.unusedSimpArgs false
namespace Go.Proofs.Ytgajpekolamjbaa
open Go.RowKit Go.Tk
theorem parts_end (a b c d e : Value) (w : World) : (Instr.field 138 (.agg #[a, b, c, d, e]) 4).run Try.prog w = .ok e w := by kernel_rfl
/-- How many bytes a vector has. -/
def sizeI (n ones : Int) : Int := 8 + (n + 8 - 1) / 8 + 4 * ((n + 2048 - 1) / 2048) + 2 * ((n + 256 - 1) / 256) + 4 * ((ones + 512 - 1) / 512)
theorem size_yes (n ones : Int) (w : World) (h0 : 0 ≤ n) (h1 : n ≤ 67108864) (h2 : 0 ≤ ones) (h3 : ones ≤ n) :
    Calls Try.prog 57 #[.int .i64 n, .int .i64 ones] w fun e w' => e = .returned (.int .i64 (sizeI n ones)) ∧ Below w.heap.size w w' := by
  have hf := parts_end
  go_enter Try.func57, Try.ntmps57
  go_wp2_with (go_at_call 82; refine (cut_calls _ _ _ h0 h1 h2 h3).mono ?_; unfold cutV; rintro e w1 ⟨rfl, hb⟩)
  go_ret
  exact ⟨rfl, hb⟩
theorem size_no (n ones : Int) (w : World) (h : ¬ (0 ≤ n ∧ n ≤ 67108864 ∧ 0 ≤ ones ∧ ones ≤ n)) :
    Calls Try.prog 57 #[.int .i64 n, .int .i64 ones] w fun e w' => e = .returned (.int .i64 (-1)) ∧ w = w' := by
  by_cases h0 : n < 0
  · go_enter Try.func57, Try.ntmps57
    go_wp2
    go_ret
    exact ⟨rfl, rfl⟩
  by_cases h1 : n > 67108864
  · go_enter Try.func57, Try.ntmps57
    go_wp2
    go_ret
    exact ⟨rfl, rfl⟩
  by_cases h2 : ones < 0
  · go_enter Try.func57, Try.ntmps57
    go_wp2
    go_ret
    exact ⟨rfl, rfl⟩
  have h3 : ones > n := by omega
  go_enter Try.func57, Try.ntmps57
  go_wp2
  go_ret
  exact ⟨rfl, rfl⟩
end Go.Proofs.Ytgajpekolamjbaa
