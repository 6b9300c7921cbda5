/- rank.Size and the document's Size: one number. -/
import Derived.Test.YtpphjiialgmidaaRankCut
set_option linter.unusedVariables false
set_option linter.unusedSimpArgs false
namespace Go.Proofs.Ytpphjiialgmidaa
open Go.RowKit Go.Tk
theorem parts_end (a b c d e : Value) (w : World) : (Instr.field 67 (.agg #[a, b, c, d, e]) 4).run Try.prog w = .ok e w := by kernel_rfl
/-- How many bytes a vector has. -/
def sizeI (n ones : Int) : Int := 8 + (n + 8 - 1) / 8 + 4 * ((n + 2048 - 1) / 2048) + 2 * ((n + 256 - 1) / 256) + 4 * ((ones + 512 - 1) / 512)
theorem rup_calls (n by_ : Int) (w : World) (h0 : 0 ≤ n) (h1 : n ≤ 67108864) (h2 : 1 ≤ by_) (h3 : by_ ≤ 2048) :
    Calls Try.prog 38 #[.int .i64 n, .int .i64 by_] w fun e w' => e = .returned (.int .i64 ((n + by_ - 1) / by_)) ∧ w = w' := by
  go_enter Try.func38, Try.ntmps38
  go_wp2
  go_ret
  exact ⟨rfl, rfl⟩
theorem size_yes (n ones : Int) (w : World) (h0 : 0 ≤ n) (h1 : n ≤ 67108864) (h2 : 0 ≤ ones) (h3 : ones ≤ n) :
    Calls Try.prog 11 #[.int .i64 n, .int .i64 ones] w fun e w' => e = .returned (.int .i64 (sizeI n ones)) ∧ Below w.heap.size w w' := by
  have hf := parts_end
  go_enter Try.func11, Try.ntmps11
  go_wp2_with (go_at_call 37; refine (cut_calls _ _ _ h0 h1 h2 h3).mono ?_; unfold cutV; rintro e w1 ⟨rfl, hb⟩)
  go_ret
  exact ⟨rfl, hb⟩
theorem rsize_yes (n ones : Int) (w : World) (h0 : 0 ≤ n) (h1 : n ≤ 67108864) (h2 : 0 ≤ ones) (h3 : ones ≤ n) :
    Calls Try.prog 12 #[.int .i64 n, .int .i64 ones] w fun e w' => e = .returned (.int .i64 (sizeI n ones)) ∧ w = w' := by
  go_enter Try.func12, Try.ntmps12
  go_wp2_with (go_at_call 38; refine (rup_calls _ _ _ (by omega) (by omega) (by omega) (by omega)).mono ?_; rintro e w' ⟨rfl, rfl⟩)
  go_ret
  exact ⟨rfl, rfl⟩
theorem size_no (n ones : Int) (w : World) (h : ¬ (0 ≤ n ∧ n ≤ 67108864 ∧ 0 ≤ ones ∧ ones ≤ n)) :
    Calls Try.prog 11 #[.int .i64 n, .int .i64 ones] w fun e w' => e = .returned (.int .i64 (-1)) ∧ w = w' := by
  by_cases h0 : n < 0
  · go_enter Try.func11, Try.ntmps11
    go_wp2
    go_ret
    exact ⟨rfl, rfl⟩
  by_cases h1 : n > 67108864
  · go_enter Try.func11, Try.ntmps11
    go_wp2
    go_ret
    exact ⟨rfl, rfl⟩
  by_cases h2 : ones < 0
  · go_enter Try.func11, Try.ntmps11
    go_wp2
    go_ret
    exact ⟨rfl, rfl⟩
  have h3 : ones > n := by omega
  go_enter Try.func11, Try.ntmps11
  go_wp2
  go_ret
  exact ⟨rfl, rfl⟩
theorem rsize_no (n ones : Int) (w : World) (h : ¬ (0 ≤ n ∧ n ≤ 67108864 ∧ 0 ≤ ones ∧ ones ≤ n)) :
    Calls Try.prog 12 #[.int .i64 n, .int .i64 ones] w fun e w' => e = .returned (.int .i64 (-1)) ∧ w = w' := by
  by_cases h0 : n < 0
  · go_enter Try.func12, Try.ntmps12
    go_wp2
    go_ret
    exact ⟨rfl, rfl⟩
  by_cases h1 : n > 67108864
  · go_enter Try.func12, Try.ntmps12
    go_wp2
    go_ret
    exact ⟨rfl, rfl⟩
  by_cases h2 : ones < 0
  · go_enter Try.func12, Try.ntmps12
    go_wp2
    go_ret
    exact ⟨rfl, rfl⟩
  have h3 : ones > n := by omega
  go_enter Try.func12, Try.ntmps12
  go_wp2
  go_ret
  exact ⟨rfl, rfl⟩
theorem ranksizes_go (w : World) (n : Int) (_ : (Lit.int .i64 n).wf = true) (ones : Int) (_ : (Lit.int .i64 ones).wf = true) :
    Calls Try.prog 3 #[.int .i64 n, .int .i64 ones] w fun e w' => e = .returned (.bool true) ∧ Below w.heap.size w w' := by
  by_cases h : 0 ≤ n ∧ n ≤ 67108864 ∧ 0 ≤ ones ∧ ones ≤ n
  · obtain ⟨h0, h1, h2, h3⟩ := h
    go_enter Try.func3, Try.ntmps3
    go_wp2_with (first | (go_at_call 11; refine (size_yes _ _ _ h0 h1 h2 h3).mono ?_; rintro e w' ⟨rfl, hb⟩) | (go_at_call 12; refine (rsize_yes _ _ _ h0 h1 h2 h3).mono ?_; rintro e w' ⟨rfl, rfl⟩))
    go_ret
    exact ⟨by simp, hb⟩
  · go_enter Try.func3, Try.ntmps3
    go_wp2_with (first | (go_at_call 11; refine (size_no _ _ _ h).mono ?_; rintro e w' ⟨rfl, rfl⟩) | (go_at_call 12; refine (rsize_no _ _ _ h).mono ?_; rintro e w' ⟨rfl, rfl⟩))
    go_ret
    exact ⟨by simp, Below.refl _ _⟩
end Go.Proofs.Ytpphjiialgmidaa
