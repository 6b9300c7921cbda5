/- Varints and fixed numbers: the bytes. -/
import Derived.WalkKit
set_option linter.unusedVariables false
set_option linter.unusedSimpArgs false
namespace Go.Tk
open Go
/-- A number's varint, at most so many bytes more. -/
def vzN : Nat → Int → List Int
  | 0, n => [n % 256]
  | f + 1, n => if 128 ≤ n then bits .or .u8 (n % 256) 128 :: vzN f (n / 128) else [n % 256]
def vz (n : Int) : List Int := vzN 9 n
theorem vzN_fuel : ∀ (f : Nat) (n : Int), n < 128 ^ (f + 1) → ∀ g, f ≤ g → vzN g n = vzN f n
  | 0, n, h, g, _ => by
    cases g with
    | zero => rfl
    | succ g => simp only [vzN]; rw [if_neg (by simpa using h)]
  | f + 1, n, h, g, hg => by
    obtain ⟨g', rfl⟩ : ∃ g', g = g' + 1 := ⟨g - 1, by omega⟩
    simp only [vzN]
    by_cases h1 : 128 ≤ n
    · rw [if_pos h1, if_pos h1, vzN_fuel f (n / 128) (by rw [Int.pow_succ] at h; omega) g' (by omega)]
    · rw [if_neg h1, if_neg h1]
theorem vz_step {n : Int} (h : 128 ≤ n) (h2 : n < 18446744073709551616) : vz n = bits .or .u8 (n % 256) 128 :: vz (n / 128) := by
  have e : vzN 9 n = bits .or .u8 (n % 256) 128 :: vzN 8 (n / 128) := by simp only [vzN]; rw [if_pos h]
  unfold vz
  rw [e, vzN_fuel 8 (n / 128) (by have : (128 : Int) ^ 9 = 9223372036854775808 := by decide
                                  rw [this]; omega) 9 (by omega)]
theorem vz_last {n : Int} (h : n < 128) : vz n = [n % 256] := by
  unfold vz
  simp only [vzN]
  rw [if_neg (by omega)]
theorem vzN_len : ∀ (f : Nat) (n : Int), 1 ≤ (vzN f n).length ∧ (vzN f n).length ≤ f + 1
  | 0, n => by simp [vzN]
  | f + 1, n => by
    simp only [vzN]
    split
    · have := vzN_len f (n / 128); simp; omega
    · simp
theorem vz_len (n : Int) : 1 ≤ (vz n).length ∧ (vz n).length ≤ 10 := vzN_len 9 n
/-- So many bytes of a number, the lowest first. -/
def fz (n : Int) : Nat → List Int
  | 0 => []
  | k + 1 => fz n k ++ [n / 2 ^ (8 * k) % 256]
theorem fz_len (n : Int) : ∀ k, (fz n k).length = k
  | 0 => rfl
  | k + 1 => by simp [fz, fz_len n k]
/-- How many bytes a fixed number has. -/
def oct (k : Int) : Nat := (min (max k 0) 8).toNat
theorem oct_le (k : Int) : oct k ≤ 8 := by unfold oct; omega
end Go.Tk
