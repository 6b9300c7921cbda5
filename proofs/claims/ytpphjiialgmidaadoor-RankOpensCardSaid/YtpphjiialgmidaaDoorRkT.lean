/- Rank0, Bit, search, Select, Select0. -/
import Derived.Test.YtpphjiialgmidaaDoorRkV
set_option linter.unusedVariables false
set_option linter.unusedSimpArgs false
namespace Go.Tk
open Go Go.RowKit
def rank0V (bs : List UInt8) (n m : Nat) (i : Int) : Int := if i ≤ 0 then 0 else min i n - rankV bs n m i
theorem rank_le (bs : List UInt8) (n m : Nat) (hmn : m ≤ n) (i : Int) (h : 0 ≤ i) : (rankV bs n m i : Int) ≤ min i n := by
  unfold rankV
  split
  · omega
  split
  · omega
  · omega
theorem rank0_bd (bs : List UInt8) (n m : Nat) (hmn : m ≤ n) (i : Int) : 0 ≤ rank0V bs n m i ∧ rank0V bs n m i ≤ n := by
  unfold rank0V
  split
  · omega
  · have := rank_le bs n m hmn i (by omega); omega
/-- The search's answer. -/
def srchF (cf : Nat → Int) (k : Int) : Nat → Nat → Nat → Nat
  | 0, lo, _ => lo
  | f + 1, lo, hi => if lo < hi then (if k < cf ((lo + hi) / 2 + 1) then srchF cf k f lo ((lo + hi) / 2) else srchF cf k f ((lo + hi) / 2 + 1) hi) else lo
theorem srch_fuel (cf : Nat → Int) (k : Int) : ∀ (f g lo hi : Nat), hi - lo ≤ f → hi - lo ≤ g → srchF cf k f lo hi = srchF cf k g lo hi
  | 0, g, lo, hi, h, _ => by
    cases g with
    | zero => rfl
    | succ g => simp only [srchF]; rw [if_neg (by omega)]
  | f + 1, 0, lo, hi, _, h => by simp only [srchF]; rw [if_neg (by omega)]
  | f + 1, g + 1, lo, hi, h1, h2 => by
    simp only [srchF]
    split
    · split
      · exact srch_fuel cf k f g _ _ (by omega) (by omega)
      · exact srch_fuel cf k f g _ _ (by omega) (by omega)
    · rfl
theorem srch_bd (cf : Nat → Int) (k : Int) : ∀ (f lo hi : Nat), lo ≤ hi → lo ≤ srchF cf k f lo hi ∧ srchF cf k f lo hi ≤ hi
  | 0, lo, hi, h => ⟨Nat.le_refl _, h⟩
  | f + 1, lo, hi, h => by
    simp only [srchF]
    split
    · split
      · have := srch_bd cf k f lo ((lo + hi) / 2) (by omega); omega
      · have := srch_bd cf k f ((lo + hi) / 2 + 1) hi (by omega); omega
    · omega
/-- Where the counts grow, the first place behind which more than k are counted. -/
theorem srch_least (cf : Nat → Int) (k : Int) (hm : ∀ i j, i ≤ j → cf i ≤ cf j) : ∀ (f lo hi : Nat), hi - lo ≤ f → lo ≤ hi → k < cf (hi + 1) → (∀ j, j < lo → cf (j + 1) ≤ k) → k < cf (srchF cf k f lo hi + 1) ∧ ∀ j, j < srchF cf k f lo hi → cf (j + 1) ≤ k
  | 0, lo, hi, h, hl, hk, hb => by
    obtain rfl : lo = hi := by omega
    exact ⟨hk, hb⟩
  | f + 1, lo, hi, h, hl, hk, hb => by
    simp only [srchF]
    split
    · split
      · rename_i h2
        exact srch_least cf k hm f lo ((lo + hi) / 2) (by omega) (by omega) h2 hb
      · rename_i h2
        refine srch_least cf k hm f ((lo + hi) / 2 + 1) hi (by omega) (by omega) hk (fun j hj => ?_)
        have := hm (j + 1) ((lo + hi) / 2 + 1) (by omega)
        omega
    · obtain rfl : lo = hi := by omega
      exact ⟨hk, hb⟩
def selV (cf : Nat → Int) (n : Nat) (k : Int) (most : Int) : Int := if k < 0 ∨ most ≤ k then -1 else (srchF cf k n 0 (n - 1) : Nat)
end Go.Tk
namespace Go.Proofs.YtpphjiialgmidaaDoor
open Go.RowKit Go.Tk
end Go.Proofs.YtpphjiialgmidaaDoor
