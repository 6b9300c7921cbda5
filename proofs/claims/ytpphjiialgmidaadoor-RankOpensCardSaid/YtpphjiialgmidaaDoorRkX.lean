/- Build of any bytes and number: the program's, the document's. -/
import Derived.Test.YtpphjiialgmidaaDoorRkH
set_option linter.unusedVariables false
set_option linter.unusedSimpArgs false
namespace Go.Tk
open Go Go.RowKit
def bErr (d : List UInt8) (N : Int) : Int := if N < 0 ∨ 67108864 < N then 2 else if (d.length : Int) < (N + 7) / 8 then 10 else if (N + 7) / 8 < (d.length : Int) then 13 else if padB d N.toNat = false then 12 else 0
theorem bErr_ok {d : List UInt8} {N : Int} (h : bErr d N = 0) : ∃ n : Nat, N = n ∧ n ≤ 67108864 ∧ d.length = (n + 7) / 8 ∧ padB d n = true := by
  unfold bErr at h
  by_cases h1 : N < 0 ∨ 67108864 < N
  · rw [if_pos h1] at h; exact absurd h (by decide)
  rw [if_neg h1] at h
  by_cases h2 : (d.length : Int) < (N + 7) / 8
  · rw [if_pos h2] at h; exact absurd h (by decide)
  rw [if_neg h2] at h
  by_cases h3 : (N + 7) / 8 < (d.length : Int)
  · rw [if_pos h3] at h; exact absurd h (by decide)
  rw [if_neg h3] at h
  obtain ⟨n, rfl⟩ : ∃ n : Nat, N = n := ⟨N.toNat, by omega⟩
  by_cases h4 : padB d n = true
  · exact ⟨n, rfl, by omega, by omega, h4⟩
  · rw [Int.toNat_natCast, if_pos (by simpa using h4)] at h; exact absurd h (by decide)
theorem bErr_yes {d : List UInt8} {n : Nat} (h1 : n ≤ 67108864) (h2 : d.length = (n + 7) / 8) (h3 : padB d n = true) : bErr d n = 0 := by
  unfold bErr
  rw [if_neg (by omega), if_neg (by omega), if_neg (by omega), Int.toNat_natCast, if_neg (by simp [h3])]
end Go.Tk
namespace Go.Proofs.YtpphjiialgmidaaDoor
open Go.RowKit Go.Tk
end Go.Proofs.YtpphjiialgmidaaDoor
