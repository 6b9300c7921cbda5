/- The program's and the document's Scalar, the document's Bytes. -/
import Derived.Test.YthloijpnbljpeaaTypes
import Derived.Test.YthloijpnbljpeaaUtfD
set_option linter.unusedVariables false
set_option linter.unusedSimpArgs false
namespace Go.Proofs.Ythloijpnbljpeaa
open Go.RowKit Go.Tk
theorem rbytes_calls (r : Int) (w : World) (h0 : 0 ≤ r) (h1 : r ≤ 1114111) :
    Calls Try.prog 9 #[.int .i64 r] w fun e w' => e = .returned (.slice (some ⟨w.heap.size, 0, none⟩) (encZ r).length (encZ r).length) ∧ Fresh .u8 5 w w' w.heap.size (encZ r) := by
  by_cases c1 : r < 128
  · go_enter Try.func9, Try.ntmps9
    go_wp2
    go_ret
    rw [encZ1 (by omega)]
    exact ⟨rfl, Nat.le_refl _, heap_alloc_new _ _, (Below.refl _ _).alloc (Nat.le_refl _) _⟩
  by_cases c2 : r < 2048
  · go_enter Try.func9, Try.ntmps9
    go_wp2
    go_ret
    rw [encZ2 (by omega) (by omega)]
    exact ⟨rfl, Nat.le_refl _, heap_alloc_new _ _, (Below.refl _ _).alloc (Nat.le_refl _) _⟩
  by_cases c3 : r < 65536
  · go_enter Try.func9, Try.ntmps9
    go_wp2
    go_ret
    rw [encZ3 (by omega) (by omega) (by omega)]
    exact ⟨rfl, Nat.le_refl _, heap_alloc_new _ _, (Below.refl _ _).alloc (Nat.le_refl _) _⟩
  · go_enter Try.func9, Try.ntmps9
    go_wp2
    go_ret
    rw [encZ4 (by omega) (by omega) (by omega)]
    exact ⟨rfl, Nat.le_refl _, heap_alloc_new _ _, (Below.refl _ _).alloc (Nat.le_refl _) _⟩
theorem scalar_calls (r : Int) (w : World) : Calls Try.prog 18 #[.int .i32 r] w fun e w' => e = .returned (.bool (scalarB r)) ∧ w = w' := by
  by_cases a : 0 ≤ r
  · by_cases b : r ≤ 1114111
    · by_cases c : r < 55296
      · have e : scalarB r = true := by simp [scalarB]; omega
        rw [e]; go_enter Try.func18, Try.ntmps18
        go_wp2
        go_ret
        exact ⟨by simp [a, b, c], rfl⟩
      · have e : scalarB r = decide (57343 < r) := by unfold scalarB; exact decide_eq_decide.2 (by omega)
        rw [e]; go_enter Try.func18, Try.ntmps18
        go_wp2
        go_ret
        exact ⟨by simp [a, b, c], rfl⟩
    · have e : scalarB r = false := by simp [scalarB]; omega
      rw [e]; go_enter Try.func18, Try.ntmps18
      go_wp2
      go_ret
      exact ⟨by simp [a, b], rfl⟩
  · have e : scalarB r = false := by simp [scalarB]; omega
    rw [e]; go_enter Try.func18, Try.ntmps18
    go_wp2
    go_ret
    exact ⟨by simp [a], rfl⟩
theorem rscalar_calls (r : Int) (w : World) : Calls Try.prog 7 #[.int .i64 r] w fun e w' => e = .returned (.bool (scalarB r)) ∧ w = w' := by
  by_cases a : 0 ≤ r
  · by_cases b : r ≤ 1114111
    · by_cases c : r < 55296
      · have e : scalarB r = true := by simp [scalarB]; omega
        rw [e]; go_enter Try.func7, Try.ntmps7
        go_wp2
        go_ret
        exact ⟨by simp [a, b, c], rfl⟩
      · have e : scalarB r = decide (57343 < r) := by unfold scalarB; exact decide_eq_decide.2 (by omega)
        rw [e]; go_enter Try.func7, Try.ntmps7
        go_wp2
        go_ret
        exact ⟨by simp [a, b, c], rfl⟩
    · have e : scalarB r = false := by simp [scalarB]; omega
      rw [e]; go_enter Try.func7, Try.ntmps7
      go_wp2
      go_ret
      exact ⟨by simp [a, b], rfl⟩
  · have e : scalarB r = false := by simp [scalarB]; omega
    rw [e]; go_enter Try.func7, Try.ntmps7
    go_wp2
    go_ret
    exact ⟨by simp [a], rfl⟩
end Go.Proofs.Ythloijpnbljpeaa
