/- awake: the two examples. -/
import Derived.Test.YthdkhlkmcebfeaaIriRelt
set_option linter.unusedVariables false
set_option linter.unusedSimpArgs false
namespace Go.Tk
set_option maxRecDepth 100000 in
theorem awake_res : resE [104, 116, 116, 112, 58, 47, 47, 97, 47, 98, 47, 99, 47, 100, 59, 112, 63, 113] [46, 46, 47, 103, 63, 121, 35, 115] = ([104, 116, 116, 112, 58, 47, 47, 97, 47, 98, 47, 103, 63, 121, 35, 115], 0) := by decide +kernel
set_option maxRecDepth 100000 in
theorem awake_rel : relE [104, 116, 116, 112, 58, 47, 47, 97, 47, 98, 47, 99] [104, 116, 116, 112, 58, 47, 47, 97, 47, 98, 47, 100, 58, 101] = ([46, 47, 100, 58, 101], 0) := by decide +kernel
end Go.Tk
namespace Go.Proofs.Ythdkhlkmcebfeaa
open Go.RowKit Go.Tk
theorem awake_calls (w : World) : Calls Try.prog 30 #[] w fun e w' => e = .returned (.bool true) ∧ Below w.heap.size w w' := by
  have h1 : ∀ w, Calls Try.prog 26 #[.string ⟨#[104, 116, 116, 112, 58, 47, 47, 97, 47, 98, 47, 99, 47, 100, 59, 112, 63, 113]⟩, .string ⟨#[46, 46, 47, 103, 63, 121, 35, 115]⟩] w fun e w' => e = .returned (.tuple #[.string ⟨#[104, 116, 116, 112, 58, 47, 47, 97, 47, 98, 47, 103, 63, 121, 35, 115]⟩, .int .i64 0]) ∧ Below w.heap.size w w' := fun w => by
    have := resolve_calls ⟨#[104, 116, 116, 112, 58, 47, 47, 97, 47, 98, 47, 99, 47, 100, 59, 112, 63, 113]⟩ ⟨#[46, 46, 47, 103, 63, 121, 35, 115]⟩ w (by decide) (by decide)
    rw [show (⟨#[104, 116, 116, 112, 58, 47, 47, 97, 47, 98, 47, 99, 47, 100, 59, 112, 63, 113]⟩ : ByteArray).data.toList = [104, 116, 116, 112, 58, 47, 47, 97, 47, 98, 47, 99, 47, 100, 59, 112, 63, 113] from rfl, show (⟨#[46, 46, 47, 103, 63, 121, 35, 115]⟩ : ByteArray).data.toList = [46, 46, 47, 103, 63, 121, 35, 115] from rfl, awake_res] at this
    exact this
  have h2 : ∀ w, Calls Try.prog 28 #[.string ⟨#[104, 116, 116, 112, 58, 47, 47, 97, 47, 98, 47, 99]⟩, .string ⟨#[104, 116, 116, 112, 58, 47, 47, 97, 47, 98, 47, 100, 58, 101]⟩] w fun e w' => e = .returned (.tuple #[.string ⟨#[46, 47, 100, 58, 101]⟩, .int .i64 0]) ∧ Below w.heap.size w w' := fun w => by
    have := relative_calls ⟨#[104, 116, 116, 112, 58, 47, 47, 97, 47, 98, 47, 99]⟩ ⟨#[104, 116, 116, 112, 58, 47, 47, 97, 47, 98, 47, 100, 58, 101]⟩ w (by decide) (by decide)
    rw [show (⟨#[104, 116, 116, 112, 58, 47, 47, 97, 47, 98, 47, 99]⟩ : ByteArray).data.toList = [104, 116, 116, 112, 58, 47, 47, 97, 47, 98, 47, 99] from rfl, show (⟨#[104, 116, 116, 112, 58, 47, 47, 97, 47, 98, 47, 100, 58, 101]⟩ : ByteArray).data.toList = [104, 116, 116, 112, 58, 47, 47, 97, 47, 98, 47, 100, 58, 101] from rfl, awake_rel] at this
    exact this
  have H1 := Lib.hid h1
  have H2 := Lib.hid h2
  clear h1 h2
  go_enter Try.func30, Try.ntmps30
  go_wp2_with fail
  refine (H1.out _).mono ?_
  rintro e w1 ⟨rfl, hb1⟩
  have b1 := Lib.hid hb1
  clear hb1
  go_wp2_with fail
  refine (H2.out _).mono ?_
  rintro e w2 ⟨rfl, hb2⟩
  have b2 := b1.out.trans (hb2.mono b1.out.size)
  go_wp2_with fail
  go_ret
  exact ⟨rfl, b2⟩
end Go.Proofs.Ythdkhlkmcebfeaa
