/- Packed numbers: the plain law. -/
import Derived.WalkKit
import Derived.Lib.BitFns
set_option linter.unusedVariables false
set_option linter.unusedSimpArgs false
namespace Go.Tk
open Go
/-- Each is a byte. -/
def U8 (bs : List Int) : Prop := ∀ i, i < bs.length → 0 ≤ bs.getD i 0 ∧ bs.getD i 0 < 256
theorem u8_or_range (a b : Int) (h1 : 0 ≤ a) (h2 : a < 256) (h3 : 0 ≤ b) (h4 : b < 256) : 0 ≤ bits .or .u8 a b ∧ bits .or .u8 a b < 256 := by
  rw [u8_or a b h1 h2 h3 h4]
  have : a.toNat ||| b.toNat < 2 ^ 8 := Nat.or_lt_two_pow (by omega) (by omega)
  omega
theorem u8_or_zero (a : Int) (h1 : 0 ≤ a) (h2 : a < 256) : bits .or .u8 a 0 = a := by
  rw [u8_or a 0 h1 h2 (by omega) (by omega)]
  simp; omega
theorem u64_and1_zero : bits .and .u64 0 1 = 0 := by decide
/-- The byte behind bit q is or-ed with the last bit of y. -/
def orBit (bs : List Int) (q : Nat) (y : Int) : List Int := bs.set (q / 8) (bits .or .u8 (bs.getD (q / 8) 0) (bits .and .u64 y 1 % 256 * 2 ^ (q % 8) % 256))
theorem orBit_len (bs : List Int) (q : Nat) (y : Int) : (orBit bs q y).length = bs.length := by simp [orBit]
theorem getD_set_self {bs : List Int} {i : Nat} (h : i < bs.length) (x : Int) : (bs.set i x).getD i 0 = x := by simp [h]
theorem getD_set_other {bs : List Int} {i j : Nat} (h : i ≠ j) (x : Int) : (bs.set i x).getD j 0 = bs.getD j 0 := by simp [List.getD, List.getElem?_set_ne h]
theorem orBit_u8 {bs : List Int} (h : U8 bs) (q : Nat) (y : Int) : U8 (orBit bs q y) := by
  intro i hi
  rw [orBit_len] at hi
  unfold orBit
  by_cases e : q / 8 = i
  · subst e
    rw [getD_set_self hi]
    have := h _ hi
    exact u8_or_range _ _ this.1 this.2 (by omega) (by omega)
  · rw [getD_set_other e]
    exact h i hi
theorem set_getD_self (bs : List Int) (i : Nat) : bs.set i (bs.getD i 0) = bs := by
  by_cases h : i < bs.length
  · simp [h]
  · rw [List.set_eq_of_length_le (by omega)]
theorem orBit_zero {bs : List Int} (h : U8 bs) (q : Nat) : orBit bs q 0 = bs := by
  unfold orBit
  rw [u64_and1_zero]
  by_cases hq : q / 8 < bs.length
  · have := h _ hq
    have e : (0 : Int) % 256 * 2 ^ (q % 8) % 256 = 0 := by simp
    rw [e, u8_or_zero _ this.1 this.2, set_getD_self]
  · rw [List.set_eq_of_length_le (by omega)]
/-- The first j bits of x go in, from bit p on. -/
def innerTo (bs : List Int) (p : Nat) (x : Int) : Nat → List Int
  | 0 => bs
  | j + 1 => orBit (innerTo bs p x j) (p + j) (x / 2 ^ j)
theorem innerTo_len (bs : List Int) (p : Nat) (x : Int) : ∀ j, (innerTo bs p x j).length = bs.length
  | 0 => rfl
  | j + 1 => by simp only [innerTo]; rw [orBit_len, innerTo_len bs p x j]
theorem innerTo_u8 {bs : List Int} (h : U8 bs) (p : Nat) (x : Int) : ∀ j, U8 (innerTo bs p x j)
  | 0 => h
  | j + 1 => orBit_u8 (innerTo_u8 h p x j) _ _
theorem half_zero {x : Int} {j k : Nat} (h : x / 2 ^ j = 0) (hx : 0 ≤ x) (hk : j ≤ k) : x / 2 ^ k = 0 := by
  obtain ⟨d, rfl⟩ : ∃ d, k = j + d := ⟨k - j, by omega⟩
  rw [Int.pow_add, ← Int.ediv_ediv_of_nonneg (Int.le_of_lt (Int.pow_pos (by omega))), h]
  simp
theorem innerTo_stop {bs : List Int} (h : U8 bs) (p : Nat) {x : Int} (hx : 0 ≤ x) {j : Nat} (hz : x / 2 ^ j = 0) : ∀ d, innerTo bs p x (j + d) = innerTo bs p x j
  | 0 => rfl
  | d + 1 => by
    show orBit (innerTo bs p x (j + d)) (p + (j + d)) (x / 2 ^ (j + d)) = _
    rw [half_zero hz hx (Nat.le_add_right j d), orBit_zero (innerTo_u8 h p x _), innerTo_stop h p hx hz d]
theorem half_step (x : Int) (j : Nat) : x / 2 ^ j / 2 = x / 2 ^ (j + 1) := by
  rw [Int.ediv_ediv_of_nonneg (Int.le_of_lt (Int.pow_pos (by omega))), Int.pow_succ]
/-- The first i numbers, of d bits each, in R bytes. -/
def packTo (zs : List Int) (d R : Nat) : Nat → List Int
  | 0 => List.replicate R 0
  | i + 1 => innerTo (packTo zs d R i) (i * d) (zs.getD i 0) d
theorem packTo_len (zs : List Int) (d R : Nat) : ∀ i, (packTo zs d R i).length = R
  | 0 => by simp [packTo]
  | i + 1 => by simp only [packTo]; rw [innerTo_len, packTo_len zs d R i]
theorem packTo_u8 (zs : List Int) (d R : Nat) : ∀ i, U8 (packTo zs d R i)
  | 0 => by intro i hi; simp [packTo] at hi ⊢; simp [hi]
  | i + 1 => innerTo_u8 (packTo_u8 zs d R i) _ _ d
/-- How many bits a number has. -/
def bw (x : Int) : Int := (Lib.bitLen x.toNat : Nat)
theorem bitLen_zero : Lib.bitLen 0 = 0 := by simp [Lib.bitLen, Lib.bitLenAux]
theorem bitLen_le : ∀ (f x : Nat), Lib.bitLenAux f x ≤ f
  | 0, _ => by simp [Lib.bitLenAux]
  | f + 1, x => by
    simp only [Lib.bitLenAux]
    split
    · omega
    · have := bitLen_le f (x / 2); omega
theorem lt_bitLenAux : ∀ (f x : Nat), x < 2 ^ f → x < 2 ^ (Lib.bitLenAux f x)
  | 0, x, h => by simpa [Lib.bitLenAux] using h
  | f + 1, x, h => by
    simp only [Lib.bitLenAux]
    split
    · subst_vars; simp
    · have := lt_bitLenAux f (x / 2) (by rw [Nat.pow_succ] at h; omega)
      rw [Nat.pow_add]; omega
theorem bw_range (x : Int) : 0 ≤ bw x ∧ bw x ≤ 64 := by
  unfold bw Lib.bitLen
  have := bitLen_le 64 x.toNat
  omega
theorem bw_zero : bw 0 = 0 := by simp [bw, bitLen_zero]
theorem bw_half (x : Int) (h0 : 0 < x) (h : x < 18446744073709551616) : bw x = 1 + bw (x / 2) := by
  unfold bw
  rw [Lib.bitLen_half x.toNat (by omega) (by omega)]
  have : (x / 2).toNat = x.toNat / 2 := by omega
  rw [this]; omega
theorem bw_lt (x : Int) (h0 : 0 ≤ x) (h : x < 18446744073709551616) (d : Nat) (hd : bw x ≤ d) : x / 2 ^ d = 0 := by
  have h1 := lt_bitLenAux 64 x.toNat (by omega)
  have h2 : Lib.bitLenAux 64 x.toNat ≤ d := by unfold bw Lib.bitLen at hd; omega
  have h3 : x.toNat < 2 ^ d := Nat.lt_of_lt_of_le h1 (Nat.pow_le_pow_right (by omega) h2)
  have h4 : x < 2 ^ d := by
    have e : ((2 ^ d : Nat) : Int) = (2 : Int) ^ d := Int.natCast_pow 2 d
    have : ((x.toNat : Nat) : Int) < ((2 ^ d : Nat) : Int) := Int.ofNat_lt.2 h3
    rw [e] at this
    omega
  exact Int.ediv_eq_zero_of_lt h0 h4
end Go.Tk
