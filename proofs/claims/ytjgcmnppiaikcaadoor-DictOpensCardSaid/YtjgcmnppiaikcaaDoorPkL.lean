/- Packed numbers: a bit changed. Plain. -/
import Derived.Test.YtjgcmnppiaikcaaDoorPkQ
set_option linter.unusedVariables false
set_option linter.unusedSimpArgs false
namespace Go.Tk
open Go Go.RowKit
theorem xor_u8 (x y : Nat) (hx : x < 256) (hy : y < 256) : bits .xor .u8 (x : Int) (y : Int) = ((x ^^^ y : Nat) : Int) := by
  have key : (BitVec.ofInt 8 (x : Int) ^^^ BitVec.ofInt 8 (y : Int)).toNat = x ^^^ y := by
    rw [BitVec.toNat_xor, BitVec.toNat_ofInt, BitVec.toNat_ofInt]
    have e1 : ((x : Int) % ((2 ^ 8 : Nat) : Int)).toNat = x := by omega
    have e2 : ((y : Int) % ((2 ^ 8 : Nat) : Int)).toNat = y := by omega
    rw [e1, e2]
  show IntKind.u8.wrap ((BitVec.ofInt 8 (x : Int) ^^^ BitVec.ofInt 8 (y : Int)).toNat : Nat) = _
  rw [key, IntKind.wrap_u8]
  have : x ^^^ y < 2 ^ 8 := Nat.xor_lt_two_pow hx hy
  omega
/-- One bit changed. -/
def flipB (bs : List Int) (k : Nat) : List Int := bs.set (k / 8) (((bs.getD (k / 8) 0).toNat ^^^ 2 ^ (k % 8) : Nat) : Int)
theorem flipB_len (bs : List Int) (k : Nat) : (flipB bs k).length = bs.length := by simp [flipB]
theorem flip_val {bs : List Int} (hu : U8 bs) (k : Nat) (hk : k / 8 < bs.length) : (bs.getD (k / 8) 0).toNat ^^^ 2 ^ (k % 8) < 256 := by
  obtain ⟨u1, u2⟩ := hu (k / 8) hk
  have h1 : (2 : Nat) ^ (k % 8) < 2 ^ 8 := Nat.pow_lt_pow_right (by omega) (by omega)
  exact Nat.xor_lt_two_pow (n := 8) (by omega) h1
theorem flipB_u8 {bs : List Int} (hu : U8 bs) (k : Nat) (hk : k / 8 < bs.length) : U8 (flipB bs k) := by
  intro i hi
  rw [flipB_len] at hi
  unfold flipB
  by_cases h : i = k / 8
  · subst h
    rw [getD_set_self hi]
    have := flip_val hu k hk
    omega
  · rw [getD_set_other (fun e => h e.symm)]
    exact hu i hi
theorem flipB_bit {bs : List Int} (k : Nat) (hk : k / 8 < bs.length) (q : Nat) : bitI (flipB bs k) q = (bitI bs q ^^ decide (q = k)) := by
  unfold bitI flipB
  by_cases hb : q / 8 = k / 8
  · rw [hb, getD_set_self hk, Int.toNat_natCast, Nat.testBit_xor, Nat.testBit_two_pow]
    congr 1
    by_cases h : q = k
    · subst h; simp
    · rw [decide_eq_false h]; simp; omega
  · rw [getD_set_other (fun h => hb h.symm)]
    have : ¬ q = k := fun h => hb (by rw [h])
    rw [decide_eq_false this]; simp
theorem opErr_zero {bs : List Int} {n d : Nat} (h : opErr bs (n : Nat) (d : Nat) = 0) : d ≤ 64 ∧ n ≤ 2147483647 ∧ bs.length = (n * d + 7) / 8 ∧ ¬ (0 < n * d % 8 ∧ bs.getD (bs.length - 1) 0 / 2 ^ (n * d % 8) ≠ 0) := by
  unfold opErr at h
  have hm : (n : Int) * (d : Int) = ((n * d : Nat) : Int) := by rw [Int.natCast_mul]
  rw [hm] at h
  have e8 : (((n * d : Nat) : Int) % 8).toNat = n * d % 8 := by omega
  rw [e8] at h
  generalize n * d = M at *
  split at h
  · omega
  · split at h
    · omega
    · split at h
      · omega
      · split at h
        · omega
        · rename_i h1 h2 h3 h4
          refine ⟨by omega, by omega, by omega, fun hh => h4 ⟨by omega, hh.2⟩⟩
theorem opErr_ok {bs : List Int} {n d : Nat} (hd : d ≤ 64) (hn : n ≤ 2147483647) (hl : bs.length = (n * d + 7) / 8) (hp : ¬ (0 < n * d % 8 ∧ bs.getD (bs.length - 1) 0 / 2 ^ (n * d % 8) ≠ 0)) : opErr bs (n : Nat) (d : Nat) = 0 := by
  unfold opErr
  have hm : (n : Int) * (d : Int) = ((n * d : Nat) : Int) := by rw [Int.natCast_mul]
  rw [hm]
  have e8 : (((n * d : Nat) : Int) % 8).toNat = n * d % 8 := by omega
  rw [e8]
  generalize n * d = M at *
  rw [if_neg (by omega), if_neg (by omega), if_neg (by omega), if_neg (fun hh => hp ⟨by omega, hh.2⟩)]
theorem opErr_two {bs : List Int} {n d : Nat} (hd : d ≤ 64) (hn : n ≤ 2147483647) (hl : bs.length = (n * d + 7) / 8) : opErr bs (n : Nat) (d : Nat) = 0 ∨ opErr bs (n : Nat) (d : Nat) = 12 := by
  unfold opErr
  have hm : (n : Int) * (d : Int) = ((n * d : Nat) : Int) := by rw [Int.natCast_mul]
  rw [hm]
  generalize n * d = M at *
  rw [if_neg (by omega), if_neg (by omega), if_neg (by omega)]
  split
  · exact .inr rfl
  · exact .inl rfl
/-- What Pack makes is opened. -/
theorem open_pack {zs : List Int} (hz : ∀ i, i < zs.length → 0 ≤ zs.getD i 0 ∧ zs.getD i 0 < 18446744073709551616) {d : Nat} (hd : d ≤ 64) (hn : zs.length ≤ 2147483647) : opErr (packTo zs d ((zs.length * d + 7) / 8) zs.length) (zs.length : Nat) (d : Nat) = 0 := by
  refine opErr_ok hd hn (packTo_len _ _ _ _) ((pad_iff (packTo_u8 _ _ _ _) (packTo_len _ _ _ _)).2 fun q hq => ?_)
  rw [pack_bit hz d _ zs.length (Nat.le_refl _) (by omega), decide_eq_false (by omega)]
  simp
/-- A bit changed: other numbers, or none. -/
theorem flip_law {zs : List Int} (hz : ∀ i, i < zs.length → 0 ≤ zs.getD i 0 ∧ zs.getD i 0 < 18446744073709551616) {d R : Nat} (hR : R = (zs.length * d + 7) / 8) (hf : ∀ i, i < zs.length → bw (zs.getD i 0) ≤ d) (k : Nat) (hk : k / 8 < R)
    (h0 : opErr (flipB (packTo zs d R zs.length) k) (zs.length : Nat) (d : Nat) = 0) : ∃ i, i < zs.length ∧ (numT (flipB (packTo zs d R zs.length) k) d i d : Int) ≠ zs.getD i 0 := by
  have hu := packTo_u8 zs d R zs.length
  have hl := packTo_len zs d R zs.length
  have hkl : k / 8 < (packTo zs d R zs.length).length := by rw [hl]; exact hk
  have hfu := flipB_u8 hu k hkl
  obtain ⟨hd, _, hl2, hp⟩ := opErr_zero h0
  have hp2 := (pad_iff hfu hl2).1 hp
  have hb := flipB_bit k hkl
  have hkn : k < zs.length * d := by
    by_cases h : k < zs.length * d
    · exact h
    · have h1 := hp2 k (by omega)
      rw [hb, pack_bit hz d R zs.length (Nat.le_refl _) (by omega), decide_eq_false h] at h1
      simp at h1
  have hd0 : 0 < d := by
    rcases Nat.eq_zero_or_pos d with h | h
    · subst h; omega
    · exact h
  have hi : k / d < zs.length := Nat.div_lt_of_lt_mul (by rw [Nat.mul_comm]; exact hkn)
  have hmd := Nat.mod_lt k hd0
  have hkk : k / d * d + k % d = k := by rw [Nat.mul_comm]; exact Nat.div_add_mod k d
  refine ⟨k / d, hi, fun he => ?_⟩
  obtain ⟨z0, z1⟩ := hz (k / d) hi
  have h1 : numT (flipB (packTo zs d R zs.length) k) d (k / d) d = numT (packTo zs d R zs.length) d (k / d) d := by
    rw [num_pack hz (by omega) hf (k / d) hi]; omega
  have h2 : (numT (flipB (packTo zs d R zs.length) k) d (k / d) d).testBit (k % d) = (numT (packTo zs d R zs.length) d (k / d) d).testBit (k % d) := by rw [h1]
  rw [numT_bit, numT_bit, hkk, hb, decide_eq_true hmd] at h2
  simp at h2
theorem anyW_fit {zs : List Int} {d : Nat} (h : anyW zs (d : Nat) = false) : ∀ i, i < zs.length → bw (zs.getD i 0) ≤ d := by
  intro i hi
  by_cases hh : bw (zs.getD i 0) ≤ d
  · exact hh
  · rw [anyW_yes hi (by omega)] at h
    cases h
theorem fit_anyW {zs : List Int} {d : Nat} (h : ∀ i, i < zs.length → bw (zs.getD i 0) ≤ d) : anyW zs (d : Nat) = false := by
  unfold anyW
  rw [List.any_eq_false]
  intro x hx
  obtain ⟨i, hi, rfl⟩ := List.getElem_of_mem hx
  have := h i hi
  rw [List.getD_eq_getElem?_getD, List.getElem?_eq_getElem hi] at this
  simp only [Option.getD_some] at this
  simp only [decide_eq_true_eq]
  omega
end Go.Tk
