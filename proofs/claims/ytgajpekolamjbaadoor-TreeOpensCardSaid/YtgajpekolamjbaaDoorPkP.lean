/- BitsM PkP, laid as one. -/
import Derived.WalkKit
import Derived.Lib.BitFns
set_option linter.unusedVariables false
set_option linter.unusedSimpArgs false
/- Packed numbers: the plain law. -/
namespace Go.Tk
open Go
/-- Each is a byte. -/
def U8 (bs : List Int) : Prop := ∀ i, i < bs.length → 0 ≤ bs.getD i 0 ∧ bs.getD i 0 < 256
theorem u8_or_range (a b : Int) (h1 : 0 ≤ a) (h2 : a < 256) (h3 : 0 ≤ b) (h4 : b < 256) : 0 ≤ bits .or .u8 a b ∧ bits .or .u8 a b < 256 := by
  rw [u8_or a b h1 h2 h3 h4]
  have : a.toNat ||| b.toNat < 2 ^ 8 := Nat.or_lt_two_pow (by omega) (by omega)
  omega
theorem u8_or_zero (a : Int) (h1 : 0 ≤ a) (h2 : a < 256) : bits .or .u8 a 0 = a := by
  rw [u8_or a 0 h1 h2 (by omega) (by omega)]
  simp; omega
theorem u64_and1_zero : bits .and .u64 0 1 = 0 := by decide
/-- The byte behind bit q is or-ed with the last bit of y. -/
def orBit (bs : List Int) (q : Nat) (y : Int) : List Int := bs.set (q / 8) (bits .or .u8 (bs.getD (q / 8) 0) (bits .and .u64 y 1 % 256 * 2 ^ (q % 8) % 256))
theorem orBit_len (bs : List Int) (q : Nat) (y : Int) : (orBit bs q y).length = bs.length := by simp [orBit]
theorem getD_set_self {bs : List Int} {i : Nat} (h : i < bs.length) (x : Int) : (bs.set i x).getD i 0 = x := by simp [h]
theorem getD_set_other {bs : List Int} {i j : Nat} (h : i ≠ j) (x : Int) : (bs.set i x).getD j 0 = bs.getD j 0 := by simp [List.getD, List.getElem?_set_ne h]
theorem orBit_u8 {bs : List Int} (h : U8 bs) (q : Nat) (y : Int) : U8 (orBit bs q y) := by
  intro i hi
  rw [orBit_len] at hi
  unfold orBit
  by_cases e : q / 8 = i
  · subst e
    rw [getD_set_self hi]
    have := h _ hi
    exact u8_or_range _ _ this.1 this.2 (by omega) (by omega)
  · rw [getD_set_other e]
    exact h i hi
theorem set_getD_self (bs : List Int) (i : Nat) : bs.set i (bs.getD i 0) = bs := by
  by_cases h : i < bs.length
  · simp [h]
  · rw [List.set_eq_of_length_le (by omega)]
theorem orBit_zero {bs : List Int} (h : U8 bs) (q : Nat) : orBit bs q 0 = bs := by
  unfold orBit
  rw [u64_and1_zero]
  by_cases hq : q / 8 < bs.length
  · have := h _ hq
    have e : (0 : Int) % 256 * 2 ^ (q % 8) % 256 = 0 := by simp
    rw [e, u8_or_zero _ this.1 this.2, set_getD_self]
  · rw [List.set_eq_of_length_le (by omega)]
/-- The first j bits of x go in, from bit p on. -/
def innerTo (bs : List Int) (p : Nat) (x : Int) : Nat → List Int
  | 0 => bs
  | j + 1 => orBit (innerTo bs p x j) (p + j) (x / 2 ^ j)
theorem innerTo_len (bs : List Int) (p : Nat) (x : Int) : ∀ j, (innerTo bs p x j).length = bs.length
  | 0 => rfl
  | j + 1 => by simp only [innerTo]; rw [orBit_len, innerTo_len bs p x j]
theorem innerTo_u8 {bs : List Int} (h : U8 bs) (p : Nat) (x : Int) : ∀ j, U8 (innerTo bs p x j)
  | 0 => h
  | j + 1 => orBit_u8 (innerTo_u8 h p x j) _ _
theorem half_zero {x : Int} {j k : Nat} (h : x / 2 ^ j = 0) (hx : 0 ≤ x) (hk : j ≤ k) : x / 2 ^ k = 0 := by
  obtain ⟨d, rfl⟩ : ∃ d, k = j + d := ⟨k - j, by omega⟩
  rw [Int.pow_add, ← Int.ediv_ediv_of_nonneg (Int.le_of_lt (Int.pow_pos (by omega))), h]
  simp
theorem innerTo_stop {bs : List Int} (h : U8 bs) (p : Nat) {x : Int} (hx : 0 ≤ x) {j : Nat} (hz : x / 2 ^ j = 0) : ∀ d, innerTo bs p x (j + d) = innerTo bs p x j
  | 0 => rfl
  | d + 1 => by
    show orBit (innerTo bs p x (j + d)) (p + (j + d)) (x / 2 ^ (j + d)) = _
    rw [half_zero hz hx (Nat.le_add_right j d), orBit_zero (innerTo_u8 h p x _), innerTo_stop h p hx hz d]
theorem half_step (x : Int) (j : Nat) : x / 2 ^ j / 2 = x / 2 ^ (j + 1) := by
  rw [Int.ediv_ediv_of_nonneg (Int.le_of_lt (Int.pow_pos (by omega))), Int.pow_succ]
/-- The first i numbers, of d bits each, in R bytes. -/
def packTo (zs : List Int) (d R : Nat) : Nat → List Int
  | 0 => List.replicate R 0
  | i + 1 => innerTo (packTo zs d R i) (i * d) (zs.getD i 0) d
theorem packTo_len (zs : List Int) (d R : Nat) : ∀ i, (packTo zs d R i).length = R
  | 0 => by simp [packTo]
  | i + 1 => by simp only [packTo]; rw [innerTo_len, packTo_len zs d R i]
theorem packTo_u8 (zs : List Int) (d R : Nat) : ∀ i, U8 (packTo zs d R i)
  | 0 => by intro i hi; simp [packTo] at hi ⊢; simp [hi]
  | i + 1 => innerTo_u8 (packTo_u8 zs d R i) _ _ d
/-- How many bits a number has. -/
def bw (x : Int) : Int := (Lib.bitLen x.toNat : Nat)
theorem bitLen_zero : Lib.bitLen 0 = 0 := by simp [Lib.bitLen, Lib.bitLenAux]
theorem bitLen_le : ∀ (f x : Nat), Lib.bitLenAux f x ≤ f
  | 0, _ => by simp [Lib.bitLenAux]
  | f + 1, x => by
    simp only [Lib.bitLenAux]
    split
    · omega
    · have := bitLen_le f (x / 2); omega
theorem lt_bitLenAux : ∀ (f x : Nat), x < 2 ^ f → x < 2 ^ (Lib.bitLenAux f x)
  | 0, x, h => by simpa [Lib.bitLenAux] using h
  | f + 1, x, h => by
    simp only [Lib.bitLenAux]
    split
    · subst_vars; simp
    · have := lt_bitLenAux f (x / 2) (by rw [Nat.pow_succ] at h; omega)
      rw [Nat.pow_add]; omega
theorem bw_range (x : Int) : 0 ≤ bw x ∧ bw x ≤ 64 := by
  unfold bw Lib.bitLen
  have := bitLen_le 64 x.toNat
  omega
theorem bw_zero : bw 0 = 0 := by simp [bw, bitLen_zero]
theorem bw_half (x : Int) (h0 : 0 < x) (h : x < 18446744073709551616) : bw x = 1 + bw (x / 2) := by
  unfold bw
  rw [Lib.bitLen_half x.toNat (by omega) (by omega)]
  have : (x / 2).toNat = x.toNat / 2 := by omega
  rw [this]; omega
theorem bw_lt (x : Int) (h0 : 0 ≤ x) (h : x < 18446744073709551616) (d : Nat) (hd : bw x ≤ d) : x / 2 ^ d = 0 := by
  have h1 := lt_bitLenAux 64 x.toNat (by omega)
  have h2 : Lib.bitLenAux 64 x.toNat ≤ d := by unfold bw Lib.bitLen at hd; omega
  have h3 : x.toNat < 2 ^ d := Nat.lt_of_lt_of_le h1 (Nat.pow_le_pow_right (by omega) h2)
  have h4 : x < 2 ^ d := by
    have e : ((2 ^ d : Nat) : Int) = (2 : Int) ^ d := Int.natCast_pow 2 d
    have : ((x.toNat : Nat) : Int) < ((2 ^ d : Nat) : Int) := Int.ofNat_lt.2 h3
    rw [e] at this
    omega
  exact Int.ediv_eq_zero_of_lt h0 h4
end Go.Tk
/- Packed numbers: their bits. Plain. -/
namespace Go.Tk
open Go Go.RowKit
/-- Bit q of bytes. -/
def bitI (bs : List Int) (q : Nat) : Bool := (bs.getD (q / 8) 0).toNat.testBit (q % 8)
theorem or_u8 (x y : Nat) (hx : x < 256) (hy : y < 256) : bits .or .u8 (x : Int) (y : Int) = ((x ||| y : Nat) : Int) := by
  have key : (BitVec.ofInt 8 (x : Int) ||| BitVec.ofInt 8 (y : Int)).toNat = x ||| y := by
    rw [BitVec.toNat_or, BitVec.toNat_ofInt, BitVec.toNat_ofInt]
    have e1 : ((x : Int) % ((2 ^ 8 : Nat) : Int)).toNat = x := by omega
    have e2 : ((y : Int) % ((2 ^ 8 : Nat) : Int)).toNat = y := by omega
    rw [e1, e2]
  show IntKind.u8.wrap ((BitVec.ofInt 8 (x : Int) ||| BitVec.ofInt 8 (y : Int)).toNat : Nat) = _
  rw [key, IntKind.wrap_u8]
  have : x ||| y < 2 ^ 8 := Nat.or_lt_two_pow hx hy
  omega
theorem and1_u64 (y : Int) (h0 : 0 ≤ y) (h1 : y < 18446744073709551616) : bits .and .u64 y 1 = y % 2 := by
  have key : (BitVec.ofInt 64 y &&& BitVec.ofInt 64 1).toNat = y.toNat % 2 := by
    rw [BitVec.toNat_and, BitVec.toNat_ofInt, BitVec.toNat_ofInt]
    have e1 : (y % ((2 ^ 64 : Nat) : Int)).toNat = y.toNat := by omega
    have e2 : ((1 : Int) % ((2 ^ 64 : Nat) : Int)).toNat = 1 := by omega
    rw [e1, e2, Nat.and_one_is_mod]
  show IntKind.u64.wrap ((BitVec.ofInt 64 y &&& BitVec.ofInt 64 1).toNat : Nat) = _
  rw [key, IntKind.wrap_u64]
  omega
theorem orBit_bit {bs : List Int} (hu : U8 bs) (q : Nat) (hq : q / 8 < bs.length) (y : Int) (h0 : 0 ≤ y) (h1 : y < 18446744073709551616) (p : Nat) : bitI (orBit bs q y) p = (bitI bs p || (decide (p = q) && decide (y % 2 = 1))) := by
  obtain ⟨u1, u2⟩ := hu (q / 8) hq
  have hv : q % 8 < 8 := by omega
  have hp : (2 : Nat) ^ (q % 8) ≤ 128 := by
    have : ∀ v : Fin 8, 2 ^ v.val ≤ 128 := by decide
    exact this ⟨q % 8, hv⟩
  obtain ⟨x, hx⟩ : ∃ x : Nat, bs.getD (q / 8) 0 = x := ⟨(bs.getD (q / 8) 0).toNat, by omega⟩
  have hy : bits .and .u64 y 1 % 256 * 2 ^ (q % 8) % 256 = (((y % 2).toNat * 2 ^ (q % 8) : Nat) : Int) := by
    rw [and1_u64 y h0 h1, Int.natCast_mul, Int.natCast_pow]
    have e : y % 2 % 256 = y % 2 := by omega
    have e2 : ((y % 2).toNat : Int) = y % 2 := by omega
    rw [e, e2]
    have h01 : y % 2 = 0 ∨ y % 2 = 1 := by omega
    have hpi : ((2 : Int) ^ (q % 8)) = ((2 ^ (q % 8) : Nat) : Int) := by rw [Int.natCast_pow]; rfl
    rcases h01 with h | h
    · rw [h]; simp
    · rw [h, Int.one_mul]
      have : ((2 : Int) ^ (q % 8)) % 256 = (2 : Int) ^ (q % 8) := by
        rw [hpi]
        exact Int.emod_eq_of_lt (Int.natCast_nonneg _) (Int.ofNat_lt.2 (show 2 ^ (q % 8) < 256 from Nat.lt_of_le_of_lt hp (by omega)))
      rw [this]
      show (2 : Int) ^ (q % 8) = 1 * (2 : Int) ^ (q % 8)
      rw [Int.one_mul]
  unfold bitI orBit
  rw [hy, hx]
  have hz : (y % 2).toNat * 2 ^ (q % 8) < 256 := by
    have h01 : (y % 2).toNat = 0 ∨ (y % 2).toNat = 1 := by omega
    rcases h01 with h | h
    · rw [h]; simp
    · rw [h]; omega
  rw [or_u8 x _ (by omega) hz]
  by_cases hb : p / 8 = q / 8
  · rw [hb, getD_set_self hq, Int.toNat_natCast, hx, Int.toNat_natCast, Nat.testBit_or]
    congr 1
    have h01 : y % 2 = 0 ∨ y % 2 = 1 := by omega
    rcases h01 with h | h
    · rw [h]; simp
    · rw [h]
      simp only [Int.toNat_one, Nat.one_mul, decide_true, Bool.and_true]
      rw [Nat.testBit_two_pow]
      by_cases hpq : p = q
      · subst hpq; simp
      · rw [decide_eq_false hpq]; simp; omega
  · rw [getD_set_other (fun h => hb h.symm)]
    have : ¬ p = q := fun h => hb (by rw [h])
    rw [decide_eq_false this]; simp
theorem half_le (x : Int) (h0 : 0 ≤ x) (h1 : x < 18446744073709551616) (j : Nat) : 0 ≤ x / 2 ^ j ∧ x / 2 ^ j < 18446744073709551616 := by
  have hp : (0 : Int) < 2 ^ j := Int.pow_pos (by omega)
  refine ⟨Int.ediv_nonneg h0 (Int.le_of_lt hp), ?_⟩
  have : x / 2 ^ j ≤ x := Int.ediv_le_self _ h0
  omega
theorem half_bit (x : Int) (h0 : 0 ≤ x) (j : Nat) : decide (x / 2 ^ j % 2 = 1) = x.toNat.testBit j := by
  obtain ⟨n, rfl⟩ : ∃ n : Nat, x = n := ⟨x.toNat, by omega⟩
  have e : ((n : Int) / 2 ^ j) = ((n / 2 ^ j : Nat) : Int) := by rw [Int.natCast_ediv, Int.natCast_pow]; rfl
  rw [e, Int.toNat_natCast, Nat.testBit_eq_decide_div_mod_eq]
  have : ((n / 2 ^ j : Nat) : Int) % 2 = 1 ↔ n / 2 ^ j % 2 = 1 := by omega
  by_cases h : n / 2 ^ j % 2 = 1
  · rw [decide_eq_true h, decide_eq_true (this.2 h)]
  · rw [decide_eq_false h, decide_eq_false (fun h' => h (this.1 h'))]
theorem inner_bit {bs : List Int} (hu : U8 bs) (p : Nat) (x : Int) (h0 : 0 ≤ x) (h1 : x < 18446744073709551616) : ∀ (d : Nat), p + d ≤ 8 * bs.length → ∀ q, bitI (innerTo bs p x d) q = (bitI bs q || (decide (p ≤ q ∧ q < p + d) && x.toNat.testBit (q - p)))
  | 0, _, q => by
    simp only [innerTo]
    rw [decide_eq_false (by omega)]; simp
  | d + 1, hd, q => by
    simp only [innerTo]
    obtain ⟨g0, g1⟩ := half_le x h0 h1 d
    rw [orBit_bit (innerTo_u8 hu p x d) (p + d) (by rw [innerTo_len]; omega) _ g0 g1, inner_bit hu p x h0 h1 d (by omega) q, half_bit x h0 d]
    by_cases hq : q = p + d
    · subst hq
      rw [decide_eq_false (by omega), decide_eq_true (show p ≤ p + d ∧ p + d < p + (d + 1) by omega)]
      simp
    · rw [decide_eq_false hq]
      have e : decide (p ≤ q ∧ q < p + d) = decide (p ≤ q ∧ q < p + (d + 1)) := by
        by_cases h : p ≤ q ∧ q < p + d
        · rw [decide_eq_true h, decide_eq_true (by omega)]
        · rw [decide_eq_false h, decide_eq_false (by omega)]
      rw [e]; simp
theorem pack_bit {zs : List Int} (hz : ∀ i, i < zs.length → 0 ≤ zs.getD i 0 ∧ zs.getD i 0 < 18446744073709551616) (d R : Nat) : ∀ i, i ≤ zs.length → i * d ≤ 8 * R → ∀ q, bitI (packTo zs d R i) q = (decide (q < i * d) && (zs.getD (q / d) 0).toNat.testBit (q % d))
  | 0, _, _, q => by
    simp only [packTo]
    unfold bitI
    rw [Nat.zero_mul, decide_eq_false (by omega)]
    simp only [List.getD_eq_getElem?_getD, List.getElem?_replicate]
    split <;> simp
  | i + 1, hi, hR, q => by
    have hm : (i + 1) * d = i * d + d := by rw [Nat.add_mul, Nat.one_mul]
    simp only [packTo]
    obtain ⟨z0, z1⟩ := hz i (by omega)
    rw [inner_bit (packTo_u8 zs d R i) (i * d) _ z0 z1 d (by rw [packTo_len]; omega) q, pack_bit hz d R i (by omega) (by omega) q, hm]
    by_cases h1 : q < i * d
    · rw [decide_eq_true h1, decide_eq_true (show q < i * d + d by omega), decide_eq_false (by omega)]; simp
    · rw [decide_eq_false h1]
      by_cases h2 : q < i * d + d
      · have hd : 0 < d := by omega
        have hq : q / d = i := by
          rw [Nat.div_eq_of_lt_le]
          · omega
          · rw [Nat.add_mul, Nat.one_mul]; omega
        have hr : q % d = q - i * d := by
          have := Nat.div_add_mod q d
          rw [hq, Nat.mul_comm] at this
          omega
        rw [decide_eq_true h2, decide_eq_true (show i * d ≤ q ∧ q < i * d + d by omega), hq, hr]
        simp
      · rw [decide_eq_false h2, decide_eq_false (by omega)]; simp
/-- The number at a place. -/
def numT (bs : List Int) (d i : Nat) : Nat → Nat
  | 0 => 0
  | k + 1 => numT bs d i k ||| (if bitI bs (i * d + k) = true then 2 ^ k else 0)
theorem numT_bit (bs : List Int) (d i : Nat) : ∀ k j, (numT bs d i k).testBit j = (decide (j < k) && bitI bs (i * d + j))
  | 0, j => by simp [numT]
  | k + 1, j => by
    simp only [numT]
    rw [Nat.testBit_or, numT_bit bs d i k j]
    by_cases hj : j = k
    · subst hj
      rw [decide_eq_false (by omega), decide_eq_true (by omega)]
      by_cases hb : bitI bs (i * d + j) = true
      · rw [if_pos hb, hb]; simp
      · rw [if_neg hb]; simp at hb; rw [hb]; simp
    · have hx : (if bitI bs (i * d + k) = true then 2 ^ k else 0).testBit j = false := by
        split
        · rw [Nat.testBit_two_pow]; simp; omega
        · simp
      rw [hx, Bool.or_false]
      by_cases h : j < k
      · rw [decide_eq_true h, decide_eq_true (by omega)]
      · rw [decide_eq_false h, decide_eq_false (by omega)]
theorem numT_lt (bs : List Int) (d i : Nat) : ∀ k, numT bs d i k < 2 ^ k
  | 0 => by simp [numT]
  | k + 1 => by
    simp only [numT]
    have h := numT_lt bs d i k
    apply Nat.or_lt_two_pow
    · exact Nat.lt_of_lt_of_le h (Nat.pow_le_pow_right (by omega) (by omega))
    · split
      · exact Nat.pow_lt_pow_right (by omega) (by omega)
      · exact Nat.two_pow_pos _
end Go.Tk
