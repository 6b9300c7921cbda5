/- rank.Size and the document's Size: one number. -/
import Derived.Test.YtpphjiialgmidaaDoorRankCut
set_option linter.unusedVariables false
set_option linter.unusedSimpArgs false
namespace Go.Proofs.YtpphjiialgmidaaDoor
open Go.RowKit Go.Tk
theorem parts_end (a b c d e : Value) (w : World) : (Instr.field 40 (.agg #[a, b, c, d, e]) 4).run Tryd.prog w = .ok e w := by kernel_rfl
/-- How many bytes a vector has. -/
def sizeI (n ones : Int) : Int := 8 + (n + 8 - 1) / 8 + 4 * ((n + 2048 - 1) / 2048) + 2 * ((n + 256 - 1) / 256) + 4 * ((ones + 512 - 1) / 512)
theorem rup_calls (n by_ : Int) (w : World) (h0 : 0 ≤ n) (h1 : n ≤ 67108864) (h2 : 1 ≤ by_) (h3 : by_ ≤ 2048) :
    Calls Tryd.prog 24 #[.int .i64 n, .int .i64 by_] w fun e w' => e = .returned (.int .i64 ((n + by_ - 1) / by_)) ∧ w = w' := by
  go_enter Tryd.func24, Tryd.ntmps24
  go_wp2
  go_ret
  exact ⟨rfl, rfl⟩
theorem rsize_yes (n ones : Int) (w : World) (h0 : 0 ≤ n) (h1 : n ≤ 67108864) (h2 : 0 ≤ ones) (h3 : ones ≤ n) :
    Calls Tryd.prog 19 #[.int .i64 n, .int .i64 ones] w fun e w' => e = .returned (.int .i64 (sizeI n ones)) ∧ w = w' := by
  go_enter Tryd.func19, Tryd.ntmps19
  go_wp2_with (go_at_call 24; refine (rup_calls _ _ _ (by omega) (by omega) (by omega) (by omega)).mono ?_; rintro e w' ⟨rfl, rfl⟩)
  go_ret
  exact ⟨rfl, rfl⟩
theorem rsize_no (n ones : Int) (w : World) (h : ¬ (0 ≤ n ∧ n ≤ 67108864 ∧ 0 ≤ ones ∧ ones ≤ n)) :
    Calls Tryd.prog 19 #[.int .i64 n, .int .i64 ones] w fun e w' => e = .returned (.int .i64 (-1)) ∧ w = w' := by
  by_cases h0 : n < 0
  · go_enter Tryd.func19, Tryd.ntmps19
    go_wp2
    go_ret
    exact ⟨rfl, rfl⟩
  by_cases h1 : n > 67108864
  · go_enter Tryd.func19, Tryd.ntmps19
    go_wp2
    go_ret
    exact ⟨rfl, rfl⟩
  by_cases h2 : ones < 0
  · go_enter Tryd.func19, Tryd.ntmps19
    go_wp2
    go_ret
    exact ⟨rfl, rfl⟩
  have h3 : ones > n := by omega
  go_enter Tryd.func19, Tryd.ntmps19
  go_wp2
  go_ret
  exact ⟨rfl, rfl⟩
end Go.Proofs.YtpphjiialgmidaaDoor
