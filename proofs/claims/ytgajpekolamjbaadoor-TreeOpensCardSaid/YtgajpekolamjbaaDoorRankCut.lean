/- Samesame RankCut, laid as one. -/
import Derived.Test.YtgajpekolamjbaaDoorProg
import Derived.Test.YtgajpekolamjbaaDoorBase
import Derived.Test.YtgajpekolamjbaaDoorReg
import Derived.BigQuiet
import Derived.WalkKit
set_option linter.unusedVariables false
set_option linter.unusedSimpArgs false
/- tessera/tesseralaw01.Same: are two slices the same, number by number? -/
namespace Go.Proofs.YtgajpekolamjbaaDoor
open Go.RowKit Go.Tk
end Go.Proofs.YtgajpekolamjbaaDoor
/- rank.up, rank.cut: what they compute. -/
namespace Go.Proofs.YtgajpekolamjbaaDoor
open Go.RowKit Go.Tk
theorem up_calls (n by_ : Int) (w : World) (h0 : 0 ≤ n) (h1 : n ≤ 67108864) (h2 : 1 ≤ by_) (h3 : by_ ≤ 2048) :
    Calls Tryd.prog 46 #[.int .i64 n, .int .i64 by_] w fun e w' => e = .returned (.int .i64 ((n + by_ - 1) / by_)) ∧ w = w' := by
  go_enter Tryd.func46, Tryd.ntmps46
  go_wp2
  go_ret
  exact ⟨rfl, rfl⟩
/-- What cut hands back. -/
def cutV (n ones : Int) : Value := .agg #[.int .i64 8, .int .i64 (8 + (n + 8 - 1) / 8), .int .i64 (8 + (n + 8 - 1) / 8 + 4 * ((n + 2048 - 1) / 2048)), .int .i64 (8 + (n + 8 - 1) / 8 + 4 * ((n + 2048 - 1) / 2048) + 2 * ((n + 256 - 1) / 256)),
  .int .i64 (8 + (n + 8 - 1) / 8 + 4 * ((n + 2048 - 1) / 2048) + 2 * ((n + 256 - 1) / 256) + 4 * ((ones + 512 - 1) / 512))]
theorem cut_calls (n ones : Int) (w : World) (h0 : 0 ≤ n) (h1 : n ≤ 67108864) (h2 : 0 ≤ ones) (h3 : ones ≤ n) :
    Calls Tryd.prog 27 #[.int .i64 n, .int .i64 ones] w fun e w' => e = .returned (cutV n ones) ∧ Below w.heap.size w w' := by
  go_enter Tryd.func27, Tryd.ntmps27
  go_wp2_with fail
  refine wp_region_quiet_tail (fun w' => ∃ n, w' = World.drewN _ n) 6 (by kernel_rfl) (by kernel_rfl) ⟨1, rfl⟩ ?_
  simp only [List.take_succ_cons, List.take_zero, List.drop_succ_cons, List.drop_zero]
  repeat (go_big_quiet_step ((go_at_call 46; exact quiet_eq (up_calls _ _ _ (by omega) (by omega) (by omega) (by omega)))))
  refine wpQuiet_nil ?_
  rintro _ ⟨n1, rfl⟩
  go_wp2_with fail
  refine wp_region_quiet_tail (fun w' => ∃ n, w' = World.drewN _ n) 7 (by kernel_rfl) (by kernel_rfl) ⟨1, rfl⟩ ?_
  simp only [List.take_succ_cons, List.take_zero, List.drop_succ_cons, List.drop_zero]
  repeat (go_big_quiet_step ((go_at_call 46; exact quiet_eq (up_calls _ _ _ (by omega) (by omega) (by omega) (by omega)))))
  refine wpQuiet_nil ?_
  rintro _ ⟨n1, rfl⟩
  go_wp2_with fail
  refine wp_region_quiet_tail (fun w' => ∃ n, w' = World.drewN _ n) 7 (by kernel_rfl) (by kernel_rfl) ⟨1, rfl⟩ ?_
  simp only [List.take_succ_cons, List.take_zero, List.drop_succ_cons, List.drop_zero]
  repeat (go_big_quiet_step ((go_at_call 46; exact quiet_eq (up_calls _ _ _ (by omega) (by omega) (by omega) (by omega)))))
  refine wpQuiet_nil ?_
  rintro _ ⟨n1, rfl⟩
  go_wp2_with fail
  refine wp_region_quiet_tail (fun w' => ∃ n, w' = World.drewN _ n) 7 (by kernel_rfl) (by kernel_rfl) ⟨1, rfl⟩ ?_
  simp only [List.take_succ_cons, List.take_zero, List.drop_succ_cons, List.drop_zero]
  repeat (go_big_quiet_step ((go_at_call 46; exact quiet_eq (up_calls _ _ _ (by omega) (by omega) (by omega) (by omega)))))
  refine wpQuiet_nil ?_
  rintro _ ⟨n1, rfl⟩
  go_wp2_with fail
  exact bodyPost_ret (v := cutV n ones) (by simp [results, Tryd.results27, go_sem, cutV]) rfl
    ⟨rfl, by repeat (first | with_reducible exact Below.refl _ _ | with_reducible refine below_drewN ?_ _ | (with_reducible refine Below.setCell ?_ (by simp) _) | (with_reducible refine Below.alloc ?_ (by simp) _))⟩
end Go.Proofs.YtgajpekolamjbaaDoor
