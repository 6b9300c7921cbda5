/- BitsW BitsPackA BitsPackB BitsPackC, laid as one. -/
import Derived.Test.YtgajpekolamjbaaDoorTypes
import Derived.Test.YtgajpekolamjbaaDoorPkP
import Derived.Test.YtgajpekolamjbaaDoorCpK
import Derived.Test.YtgajpekolamjbaaDoorReg
import Derived.Test.YtgajpekolamjbaaDoorShelf
import Derived.BigQuiet
import Derived.BigRegion
set_option linter.unusedVariables false
set_option linter.unusedSimpArgs false
/- bits.Width and the document's Width. -/
namespace Go.Proofs.YtgajpekolamjbaaDoor
open Go.RowKit Go.Tk
theorem width_calls (x : Int) (w : World) (h0 : 0 ≤ x) (h1 : x < 18446744073709551616) :
    Calls Tryd.prog 38 #[.int .u64 x] w fun e w' => e = .returned (.int .i64 (bw x)) ∧ w = w' := by
  go_enter Tryd.func38, Tryd.ntmps38
  go_wp2_with (go_at_call 53; refine (Tryd.bits_Len64 x w h0 (by omega)).mono ?_; rintro e w' ⟨rfl, hw⟩; obtain rfl := hw.symm)
  go_ret
  exact ⟨rfl, rfl⟩
theorem rwidth_calls (x : Int) (w : World) (h0 : 0 ≤ x) (h1 : x < 18446744073709551616) :
    Calls Tryd.prog 59 #[.int .u64 x] w fun e w' => e = .returned (.int .i64 (bw x)) ∧ w = w' := by
  go_enter Tryd.func59, Tryd.ntmps59
  go_wp2
  go_loop [0, 3] (fun n c => ∃ (m k : Int), n = .int .u64 m ∧ c = .int .i64 k ∧ 0 ≤ m ∧ m < 18446744073709551616 ∧ 0 ≤ k ∧ k ≤ 64 ∧ bw x = k + bw m) (fun n _ => (intOf n).toNat)
  case atStart => exact ⟨x, 0, rfl, rfl, h0, h1, by omega, by omega, by omega⟩
  case round =>
    obtain ⟨m, k, rfl, rfl, m0, m1, k0, k1, hb⟩ := hrel
    have HB := Lib.hid hb
    have r1 := bw_range x
    clear hb
    by_cases hm : 0 < m
    · have h2 := bw_half m hm m1
      have r2 := bw_range (m / 2)
      have kk : k < 64 := by have := HB.out; omega
      have H2 := Lib.hid h2
      clear h2 r1 r2
      go_wp2
      go_round
      case rel => exact ⟨m / 2, k + 1, by go_num, by go_num, by omega, by omega, by omega, by omega, by have := HB.out; have := H2.out; omega⟩
      case measure => simp [intOf]; omega
    · have : m = 0 := by omega
      subst this
      go_wp2
      go_ret
      exact ⟨ret_int (by have := HB.out; rw [bw_zero] at this; omega), rfl⟩
end Go.Proofs.YtgajpekolamjbaaDoor
/- bits.Pack's look at the widths; fits, room. -/
namespace Go.Tk
/-- Is one of the numbers wider than so many bits? -/
def anyW (zs : List Int) (wd : Int) : Bool := zs.any fun x => decide (wd < bw x)
def U64 (zs : List Int) : Prop := ∀ i, i < zs.length → 0 ≤ zs.getD i 0 ∧ zs.getD i 0 < 18446744073709551616
theorem anyW_yes {zs : List Int} {wd : Int} {k : Nat} (hk : k < zs.length) (h : wd < bw (zs.getD k 0)) : anyW zs wd = true := by
  unfold anyW
  rw [List.any_eq_true]
  exact ⟨zs[k], List.getElem_mem hk, by simpa [hk] using h⟩
theorem anyW_no {zs : List Int} {wd : Int} (h : ∀ i, i < zs.length → bw (zs.getD i 0) ≤ wd) : anyW zs wd = false := by
  unfold anyW
  rw [List.any_eq_false]
  intro x hx
  obtain ⟨i, hi, rfl⟩ := List.getElem_of_mem hx
  have := h i hi
  simp [hi] at this ⊢
  exact this
theorem anyW_le {zs : List Int} {wd : Int} (h : anyW zs wd = false) : ∀ i, i < zs.length → bw (zs.getD i 0) ≤ wd := by
  intro i hi
  rcases Int.lt_or_le wd (bw (zs.getD i 0)) with hh | hh
  · rw [anyW_yes hi hh] at h; cases h
  · exact hh
end Go.Tk
namespace Go.Proofs.YtgajpekolamjbaaDoor
open Go.RowKit Go.Tk
theorem fits_calls (wd : Int) (w : World) : Calls Tryd.prog 51 #[.int .i64 wd] w fun e w' => e = .returned (.bool (decide (0 ≤ wd ∧ wd ≤ 64))) ∧ w = w' := by
  by_cases h0 : 0 ≤ wd
  · go_enter Tryd.func51, Tryd.ntmps51
    go_wp2
    go_ret
    exact ⟨ret_bool (by simp [h0]), rfl⟩
  · go_enter Tryd.func51, Tryd.ntmps51
    go_wp2
    go_ret
    exact ⟨ret_bool (by simp; intro; omega), rfl⟩
theorem room_calls (n wd : Int) (w : World) (h0 : 0 ≤ n * wd) (h1 : n * wd ≤ 4611686018427387904) : Calls Tryd.prog 52 #[.int .i64 n, .int .i64 wd] w fun e w' => e = .returned (.int .i64 ((n * wd + 7) / 8)) ∧ w = w' := by
  go_enter Tryd.func52, Tryd.ntmps52
  go_wp2
  go_ret
  exact ⟨rfl, rfl⟩
theorem rroom_calls (n wd : Int) (w : World) (h0 : 0 ≤ n * wd) (h1 : n * wd ≤ 4611686018427387904) : Calls Tryd.prog 58 #[.int .i64 n, .int .i64 wd] w fun e w' => e = .returned (.int .i64 ((n * wd + 7) / 8)) ∧ w = w' := by
  go_enter Tryd.func58, Tryd.ntmps58
  go_wp2
  go_ret
  exact ⟨rfl, rfl⟩
end Go.Proofs.YtgajpekolamjbaaDoor
/- bits.Pack. -/
namespace Go.Proofs.YtgajpekolamjbaaDoor
open Go.RowKit Go.Tk
/-- What Pack of numbers that fit hands back: a row of its own. -/
def PackPost (w : World) (zs : List Int) (wd : Int) (n : Nat) (e : Ending) (w' : World) : Prop :=
  ∃ (d : Nat) (R g : Nat), wd = d ∧ R = (n * d + 7) / 8 ∧ e = .returned (.tuple #[.slice (some ⟨g, 0, none⟩) R R, .int .i64 0]) ∧ Fresh .u8 5 w w' g (packTo zs d R n)
end Go.Proofs.YtgajpekolamjbaaDoor
/- The document's Pack. -/
namespace Go.Proofs.YtgajpekolamjbaaDoor
open Go.RowKit Go.Tk
end Go.Proofs.YtgajpekolamjbaaDoor
