/- Halving: sort.Search, of any test; how far a test holds in a dictionary of any bytes. -/
import Derived.Test.YtjgcmnppiaikcaaDoorDkE
set_option linter.unusedVariables false
set_option linter.unusedSimpArgs false
namespace Go.Tk
open Go Go.RowKit
/-- What the halving finds. -/
def bsF (p : Nat → Bool) : Nat → Nat → Nat → Nat
  | 0, lo, _ => lo
  | f + 1, lo, hi => if lo < hi then (if p ((lo + hi) / 2) = true then bsF p f lo ((lo + hi) / 2) else bsF p f ((lo + hi) / 2 + 1) hi) else lo
theorem bsF_end (p : Nat → Bool) (f lo hi : Nat) (h : ¬ lo < hi) : bsF p f lo hi = lo := by
  cases f with
  | zero => rfl
  | succ f => simp only [bsF]; rw [if_neg h]
theorem bsF_le (p : Nat → Bool) : ∀ (f lo hi : Nat), hi - lo ≤ f → lo ≤ hi → lo ≤ bsF p f lo hi ∧ bsF p f lo hi ≤ hi
  | 0, lo, hi, h, h2 => by simp only [bsF]; omega
  | f + 1, lo, hi, h, h2 => by
    simp only [bsF]
    split
    · split
      · have := bsF_le p f lo ((lo + hi) / 2) (by omega) (by omega); omega
      · have := bsF_le p f ((lo + hi) / 2 + 1) hi (by omega) (by omega); omega
    · omega
theorem bsF_fuel (p : Nat → Bool) : ∀ (f g lo hi : Nat), hi - lo ≤ f → hi - lo ≤ g → bsF p f lo hi = bsF p g lo hi
  | 0, g, lo, hi, h, h2 => by rw [bsF_end p g lo hi (by omega)]; rfl
  | f + 1, 0, lo, hi, h, h2 => by rw [bsF_end p (f + 1) lo hi (by omega)]; rfl
  | f + 1, g + 1, lo, hi, h, h2 => by
    simp only [bsF]
    split
    · split
      · exact bsF_fuel p f g _ _ (by omega) (by omega)
      · exact bsF_fuel p f g _ _ (by omega) (by omega)
    · rfl
/-- Where the test turns from no to yes once, the halving finds the place. -/
theorem bsF_turn (p : Nat → Bool) (m : Nat) : ∀ (f lo hi : Nat), hi - lo ≤ f → lo ≤ m → m ≤ hi → (∀ i, lo ≤ i → i < hi → p i = decide (m ≤ i)) → bsF p f lo hi = m
  | 0, lo, hi, h, h1, h2, hp => by simp only [bsF]; omega
  | f + 1, lo, hi, h, h1, h2, hp => by
    simp only [bsF]
    split
    · rename_i hlt
      have hm := hp ((lo + hi) / 2) (by omega) (by omega)
      split
      · rename_i h3
        rw [h3] at hm
        have := of_decide_eq_true hm.symm
        exact bsF_turn p m f lo _ (by omega) h1 (by omega) (fun i h4 h5 => hp i h4 (by omega))
      · rename_i h3
        have h3 : p ((lo + hi) / 2) = false := by simpa using h3
        rw [h3] at hm
        have := of_decide_eq_false hm.symm
        exact bsF_turn p m f _ hi (by omega) (by omega) h2 (fun i h4 h5 => hp i (by omega) h5)
    · omega
theorem bsF_same (p q : Nat → Bool) : ∀ (f lo hi : Nat), (∀ i, lo ≤ i → i < hi → p i = q i) → bsF p f lo hi = bsF q f lo hi
  | 0, lo, hi, hp => rfl
  | f + 1, lo, hi, hp => by
    simp only [bsF]
    split
    · rw [hp ((lo + hi) / 2) (by omega) (by omega), bsF_same p q f lo _ (fun i h4 h5 => hp i h4 (by omega)), bsF_same p q f _ hi (fun i h4 h5 => hp i (by omega) h5)]
    · rfl
end Go.Tk
namespace Go.Proofs.YtjgcmnppiaikcaaDoor
open Go.RowKit Go.Tk
end Go.Proofs.YtjgcmnppiaikcaaDoor
