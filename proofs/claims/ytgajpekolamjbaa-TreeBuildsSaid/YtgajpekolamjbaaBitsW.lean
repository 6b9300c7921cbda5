/- bits.Width and the document's Width. -/
import Derived.Test.YtgajpekolamjbaaTypes
import Derived.Test.YtgajpekolamjbaaBitsM
import Derived.Test.YtgajpekolamjbaaOwn
import Derived.Test.YtgajpekolamjbaaReg
import Derived.Test.YtgajpekolamjbaaShelf
import Derived.BigQuiet
set_option linter.unusedVariables false
set_option linter.unusedSimpArgs false
namespace Go.Proofs.Ytgajpekolamjbaa
open Go.RowKit Go.Tk
theorem width_calls (x : Int) (w : World) (h0 : 0 ≤ x) (h1 : x < 18446744073709551616) :
    Calls Try.prog 38 #[.int .u64 x] w fun e w' => e = .returned (.int .i64 (bw x)) ∧ w = w' := by
  go_enter Try.func38, Try.ntmps38
  go_wp2_with (go_at_call 74; refine (Try.bits_Len64 x w h0 (by omega)).mono ?_; rintro e w' ⟨rfl, hw⟩; obtain rfl := hw.symm)
  go_ret
  exact ⟨rfl, rfl⟩
theorem rwidth_calls (x : Int) (w : World) (h0 : 0 ≤ x) (h1 : x < 18446744073709551616) :
    Calls Try.prog 88 #[.int .u64 x] w fun e w' => e = .returned (.int .i64 (bw x)) ∧ w = w' := by
  go_enter Try.func88, Try.ntmps88
  go_wp2
  go_loop [0, 3] (fun n c => ∃ (m k : Int), n = .int .u64 m ∧ c = .int .i64 k ∧ 0 ≤ m ∧ m < 18446744073709551616 ∧ 0 ≤ k ∧ k ≤ 64 ∧ bw x = k + bw m) (fun n _ => (intOf n).toNat)
  case atStart => exact ⟨x, 0, rfl, rfl, h0, h1, by omega, by omega, by omega⟩
  case round =>
    obtain ⟨m, k, rfl, rfl, m0, m1, k0, k1, hb⟩ := hrel
    have HB := Lib.hid hb
    have r1 := bw_range x
    clear hb
    by_cases hm : 0 < m
    · have h2 := bw_half m hm m1
      have r2 := bw_range (m / 2)
      have kk : k < 64 := by have := HB.out; omega
      have H2 := Lib.hid h2
      clear h2 r1 r2
      go_wp2
      go_round
      case rel => exact ⟨m / 2, k + 1, by go_num, by go_num, by omega, by omega, by omega, by omega, by have := HB.out; have := H2.out; omega⟩
      case measure => simp [intOf]; omega
    · have : m = 0 := by omega
      subst this
      go_wp2
      go_ret
      exact ⟨ret_int (by have := HB.out; rw [bw_zero] at this; omega), rfl⟩
end Go.Proofs.Ytgajpekolamjbaa
