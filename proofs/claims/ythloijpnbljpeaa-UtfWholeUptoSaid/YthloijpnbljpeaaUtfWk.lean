/- works: the chapter's examples. -/
import Derived.Test.YthloijpnbljpeaaUtfUn
set_option linter.unusedVariables false
set_option linter.unusedSimpArgs false
namespace Go.Proofs.Ythloijpnbljpeaa
open Go.RowKit Go.Tk
theorem wk1 : escF (⟨#[97, 9, 34, 92, 1, 195, 169]⟩ : ByteArray).data.toList 1 = [97, 92, 116, 92, 34, 92, 92, 92, 117, 48, 48, 48, 49, 195, 169] ∧ chkF (⟨#[97, 9, 34, 92, 1, 195, 169]⟩ : ByteArray).data.toList 0 = -1 := by decide +kernel
theorem wk2 : unF (⟨#[92, 117, 50, 48, 65, 67, 92, 110]⟩ : ByteArray).data.toList 0 1 = ([226, 130, 172, 10], 0, 0) := by decide +kernel
theorem wk3 : chkF (⟨#[195, 169, 237, 160, 128]⟩ : ByteArray).data.toList 0 = 2 := by decide +kernel
theorem wk4 : chkF (⟨#[240, 159, 152, 128]⟩ : ByteArray).data.toList 0 = -1 := by decide +kernel
theorem wkE (w : World) : Calls Try.prog 24 #[.string ⟨#[97, 9, 34, 92, 1, 195, 169]⟩, .int .i64 1] w fun e w' => e = .returned (.tuple #[.string ⟨#[97, 92, 116, 92, 34, 92, 92, 92, 117, 48, 48, 48, 49, 195, 169]⟩, .nilIface]) ∧ Below w.heap.size w w' := by
  refine (uescape_calls ⟨#[97, 9, 34, 92, 1, 195, 169]⟩ 1 w (by decide)).mono fun e w' ⟨_, h, hb⟩ => ⟨?_, hb⟩
  rw [wk1.2, wk1.1] at h
  exact h (by decide)
theorem wkU (w : World) : Calls Try.prog 25 #[.string ⟨#[92, 117, 50, 48, 65, 67, 92, 110]⟩, .int .i64 1] w fun e w' => e = .returned (.tuple #[.string ⟨#[226, 130, 172, 10]⟩, .nilIface]) ∧ Below w.heap.size w w' := by
  refine (uunescape_calls ⟨#[92, 117, 50, 48, 65, 67, 92, 110]⟩ 1 w (by decide)).mono fun e w' h => ?_
  rw [wk2] at h
  obtain ⟨v, h1, h2, hb⟩ := h
  obtain rfl := h2.none
  exact ⟨h1, hb⟩
set_option maxRecDepth 100000 in
set_option maxHeartbeats 2000000 in
theorem works_calls (w : World) : Calls Try.prog 17 #[] w fun e w' => e = .returned (.bool true) ∧ Below w.heap.size w w' := by
  have h3 := fun w => check_calls ⟨#[195, 169, 237, 160, 128]⟩ w (by decide)
  have h4 := fun w => check_calls ⟨#[240, 159, 152, 128]⟩ w (by decide)
  rw [wk3] at h3
  rw [wk4] at h4
  have H3 := Lib.hid h3
  have H4 := Lib.hid h4
  clear h3 h4
  go_enter Try.func17, Try.ntmps17
  go_wp2_with (first
    | (go_at_call 24; refine (wkE _).mono ?_; rintro e w1 ⟨rfl, hb1⟩; (have HB1 := Lib.hid hb1); clear hb1)
    | (go_at_call 25; refine (wkU _).mono ?_; rintro e w2 ⟨rfl, hb2⟩; (have HB2 := Lib.hid (HB1.out.trans (hb2.mono HB1.out.size))); clear hb2)
    | (go_at_call 13; (with_reducible refine (H3.out _).mono ?_); rintro e w3 ⟨rfl, rfl⟩)
    | (go_at_call 13; (with_reducible refine (H4.out _).mono ?_); rintro e w3 ⟨rfl, rfl⟩))
  go_ret
  exact ⟨rfl, HB2.out⟩
end Go.Proofs.Ythloijpnbljpeaa
