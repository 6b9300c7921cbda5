/- Find and Range of a dictionary that Build made. Plain. -/
import Derived.Test.YtjgcmnppiaikcaaDkQ
import Derived.Test.YtjgcmnppiaikcaaDkH
set_option linter.unusedVariables false
set_option linter.unusedSimpArgs false
namespace Go.Proofs.Ytjgcmnppiaikcaa
open Go Go.RowKit Go.Tk
/-- How many texts stand ahead of one; how many stand ahead of a prefix or begin with it. -/
def fnd (L : List (List UInt8)) (s : List UInt8) : Nat := (L.takeWhile fun t => ltB t s).length
def fnd2 (L : List (List UInt8)) (s : List UInt8) : Nat := (L.takeWhile fun t => ltB t s || preB s t).length
theorem fnd_cut {L : List (List UInt8)} (hG : Good L) (s : List UInt8) : fnd L s ≤ L.length ∧ ∀ i, i < L.length → ltB (L.getD i []) s = decide (i < fnd L s) :=
  tw_cut (fun t => ltB t s) L fun i j hij hj ht => ltB_trans (good_lt hG hij hj) ht
theorem fnd2_cut {L : List (List UInt8)} (hG : Good L) (s : List UInt8) : fnd2 L s ≤ L.length ∧ ∀ i, i < L.length → (ltB (L.getD i []) s || preB s (L.getD i [])) = decide (i < fnd2 L s) :=
  tw_cut (fun t => ltB t s || preB s t) L fun i j hij hj ht => pre_down (good_lt hG hij hj) ht
theorem ahead_fnd {L : List (List UInt8)} (hG : Good L) {eb : List UInt8} (he : nums eb = areaN L L.length) (s : List UInt8) : aheadF (packD L) (widthD L).toNat eb L.length (fun t => ltB t s) = fnd L s :=
  ahead_built hG he _ _ (fnd_cut hG s).1 (fnd_cut hG s).2
theorem ahead_fnd2 {L : List (List UInt8)} (hG : Good L) {eb : List UInt8} (he : nums eb = areaN L L.length) (s : List UInt8) : aheadF (packD L) (widthD L).toNat eb L.length (fun t => ltB t s || preB s t) = fnd2 L s :=
  ahead_built hG he _ _ (fnd2_cut hG s).1 (fnd2_cut hG s).2
theorem fnd_le2 {L : List (List UInt8)} (hG : Good L) (s : List UInt8) : fnd L s ≤ fnd2 L s := by
  rcases Nat.lt_or_ge (fnd2 L s) (fnd L s) with h | h
  · have h1 := (fnd_cut hG s).1
    have h2 := (fnd_cut hG s).2 (fnd2 L s) (by omega)
    have h3 := (fnd2_cut hG s).2 (fnd2 L s) (by omega)
    rw [decide_eq_true h] at h2
    rw [h2, decide_eq_false (by omega)] at h3
    cases h3
  · exact h
theorem find_built {L : List (List UInt8)} (hG : Good L) {eb : List UInt8} (he : nums eb = areaN L L.length) (s : List UInt8) :
    findF (packD L) (widthD L).toNat eb L.length s = (fnd L s, decide (fnd L s < L.length ∧ L.getD (fnd L s) [] = s)) := by
  unfold findF
  rw [ahead_fnd hG he, get_built hG he]
  by_cases h : fnd L s < L.length
  · rw [if_pos ⟨by omega, by omega⟩]
    simp only [Int.toNat_natCast, Bool.true_and]
    simp [h]
  · rw [if_neg (by omega)]
    simp [h]
theorem range_built {L : List (List UInt8)} (hG : Good L) {eb : List UInt8} (he : nums eb = areaN L L.length) (s : List UInt8) :
    rangeF (packD L) (widthD L).toNat eb L.length s = (fnd L s, fnd2 L s) := by
  unfold rangeF
  rw [ahead_fnd hG he, ahead_fnd2 hG he, Nat.max_eq_right (fnd_le2 hG s)]
end Go.Proofs.Ytjgcmnppiaikcaa
