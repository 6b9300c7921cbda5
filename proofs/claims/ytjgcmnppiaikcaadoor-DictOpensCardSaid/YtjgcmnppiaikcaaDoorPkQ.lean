/- Packed numbers there and back. Plain. -/
import Derived.Test.YtjgcmnppiaikcaaDoorPkO
set_option linter.unusedVariables false
set_option linter.unusedSimpArgs false
namespace Go.Tk
open Go Go.RowKit
theorem byte_hi : ∀ y : Fin 256, ∀ v : Fin 8, (∀ j : Fin 8, v.val ≤ j.val → y.val.testBit j.val = false) → y.val / 2 ^ v.val = 0 := by decide +kernel
theorem byte_hi' : ∀ y : Fin 256, ∀ v : Fin 8, y.val / 2 ^ v.val = 0 → ∀ j : Fin 8, v.val ≤ j.val → y.val.testBit j.val = false := by decide +kernel
theorem byte_all : ∀ x y : Fin 256, (∀ j : Fin 8, x.val.testBit j.val = y.val.testBit j.val) → x.val = y.val := by
  intro x y h
  apply Nat.eq_of_testBit_eq
  intro j
  by_cases hj : j < 8
  · exact h ⟨j, hj⟩
  · rw [Nat.testBit_lt_two_pow (show x.val < 2 ^ j from Nat.lt_of_lt_of_le x.isLt (show 2 ^ 8 ≤ 2 ^ j from Nat.pow_le_pow_right (by omega) (by omega))), Nat.testBit_lt_two_pow (show y.val < 2 ^ j from Nat.lt_of_lt_of_le y.isLt (show 2 ^ 8 ≤ 2 ^ j from Nat.pow_le_pow_right (by omega) (by omega)))]
/-- Bytes with the same bits are one. -/
theorem bits_eq {x y : List Int} (hx : U8 x) (hy : U8 y) (hl : x.length = y.length) (h : ∀ q, q < 8 * x.length → bitI x q = bitI y q) : x = y := by
  apply List.ext_getElem hl
  intro i h1 h2
  have e1 : x.getD i 0 = x[i] := by rw [List.getD_eq_getElem?_getD, List.getElem?_eq_getElem h1]; rfl
  have e2 : y.getD i 0 = y[i] := by rw [List.getD_eq_getElem?_getD, List.getElem?_eq_getElem h2]; rfl
  have a := hx i h1
  have b := hy i h2
  rw [e1] at a
  rw [e2] at b
  have := byte_all ⟨x[i].toNat, by omega⟩ ⟨y[i].toNat, by omega⟩ (fun j => by
    have hj := j.isLt
    have := h (8 * i + j.val) (by omega)
    unfold bitI at this
    rw [show (8 * i + j.val) / 8 = i by omega, show (8 * i + j.val) % 8 = j.val by omega, e1, e2] at this
    exact this)
  simp only at this
  omega
theorem bitI_out {bs : List Int} {q : Nat} (h : bs.length ≤ q / 8) : bitI bs q = false := by
  unfold bitI
  rw [List.getD_eq_getElem?_getD, List.getElem?_eq_none h]
  simp
/-- No bit behind the last number: what Open asks. -/
theorem pad_iff {bs : List Int} (hu : U8 bs) {m : Nat} (hl : bs.length = (m + 7) / 8) : (¬ (0 < m % 8 ∧ bs.getD (bs.length - 1) 0 / 2 ^ (m % 8) ≠ 0)) ↔ ∀ q, m ≤ q → bitI bs q = false := by
  by_cases h8 : m % 8 = 0
  · refine ⟨fun _ q hq => bitI_out (by omega), fun _ h => by omega⟩
  · have a := hu (bs.length - 1) (by omega)
    obtain ⟨y, hy⟩ : ∃ y : Nat, bs.getD (bs.length - 1) 0 = y := ⟨(bs.getD (bs.length - 1) 0).toNat, by omega⟩
    have hyb : y < 256 := by omega
    have he : bs.getD (bs.length - 1) 0 / 2 ^ (m % 8) = ((y / 2 ^ (m % 8) : Nat) : Int) := by rw [hy, Int.natCast_ediv, Int.natCast_pow]; rfl
    rw [he]
    constructor
    · intro h q hq
      by_cases ho : bs.length ≤ q / 8
      · exact bitI_out ho
      · have hq8 : q / 8 = bs.length - 1 := by omega
        have hz : y / 2 ^ (m % 8) = 0 := by
          by_cases hz : y / 2 ^ (m % 8) = 0
          · exact hz
          · exact absurd ⟨by omega, by omega⟩ h
        have := byte_hi' ⟨y, hyb⟩ ⟨m % 8, by omega⟩ hz ⟨q % 8, by omega⟩ (by simp only; omega)
        unfold bitI
        rw [hq8, hy, Int.toNat_natCast]
        exact this
    · intro h ⟨_, h2⟩
      apply h2
      have := byte_hi ⟨y, hyb⟩ ⟨m % 8, by omega⟩ (fun j hj => by
        have hj8 := j.isLt
        have := h (8 * (bs.length - 1) + j.val) (by simp only at hj; omega)
        unfold bitI at this
        rw [show (8 * (bs.length - 1) + j.val) / 8 = bs.length - 1 by omega, show (8 * (bs.length - 1) + j.val) % 8 = j.val by omega, hy, Int.toNat_natCast] at this
        exact this)
      simp only at this
      rw [this]; rfl
theorem bw_le_of {x : Nat} {d : Nat} (hx : x < 2 ^ d) : bw (x : Int) ≤ d := by
  have key : ∀ (f x d : Nat), x < 2 ^ d → Lib.bitLenAux f x ≤ d := by
    intro f
    induction f with
    | zero => intro x d _; simp [Lib.bitLenAux]
    | succ f ih =>
      intro x d h
      simp only [Lib.bitLenAux]
      split
      · omega
      · cases d with
        | zero => simp at h; omega
        | succ d =>
          have := ih (x / 2) d (by rw [Nat.pow_succ] at h; omega)
          omega
  unfold bw Lib.bitLen
  rw [Int.toNat_natCast]
  have := key 64 x d hx
  omega
theorem lt_of_bw {x : Int} (h0 : 0 ≤ x) (h1 : x < 18446744073709551616) {d : Nat} (hd : bw x ≤ d) : x.toNat < 2 ^ d := by
  have h2 := lt_bitLenAux 64 x.toNat (by omega)
  have h3 : Lib.bitLenAux 64 x.toNat ≤ d := by unfold bw Lib.bitLen at hd; omega
  exact Nat.lt_of_lt_of_le h2 (Nat.pow_le_pow_right (by omega) h3)
/-- What Pack made gives the numbers back. -/
theorem num_pack {zs : List Int} (hz : ∀ i, i < zs.length → 0 ≤ zs.getD i 0 ∧ zs.getD i 0 < 18446744073709551616) {d R : Nat} (hR : zs.length * d ≤ 8 * R) (hf : ∀ i, i < zs.length → bw (zs.getD i 0) ≤ d) (i : Nat) (hi : i < zs.length) : numT (packTo zs d R zs.length) d i d = (zs.getD i 0).toNat := by
  obtain ⟨z0, z1⟩ := hz i hi
  have hlt := lt_of_bw z0 z1 (hf i hi)
  apply Nat.eq_of_testBit_eq
  intro j
  rw [numT_bit]
  by_cases hj : j < d
  · have hid : i * d + j < zs.length * d := by
      have : (i + 1) * d ≤ zs.length * d := Nat.mul_le_mul_right d (by omega)
      rw [Nat.add_mul, Nat.one_mul] at this
      omega
    rw [decide_eq_true hj, pack_bit hz d R zs.length (Nat.le_refl _) hR, decide_eq_true hid]
    have h1 : (i * d + j) / d = i := by rw [Nat.mul_comm, Nat.mul_add_div (by omega), Nat.div_eq_of_lt hj]; omega
    have h2 : (i * d + j) % d = j := by rw [Nat.mul_comm, Nat.mul_add_mod, Nat.mod_eq_of_lt hj]
    rw [h1, h2]; simp
  · rw [decide_eq_false hj, Bool.false_and]
    exact (Nat.testBit_lt_two_pow (Nat.lt_of_lt_of_le hlt (Nat.pow_le_pow_right (by omega) (by omega)))).symm
/-- The numbers that a view gives, packed again. -/
theorem pack_num {bs : List Int} (hu : U8 bs) {n d : Nat} (hd : 0 < d) (hd2 : d ≤ 64) (hl : bs.length = (n * d + 7) / 8) (hp : ∀ q, n * d ≤ q → bitI bs q = false) (zs : List Int) (hzl : zs.length = n) (hz : ∀ i, i < n → zs.getD i 0 = (numT bs d i d : Nat)) : packTo zs d bs.length n = bs := by
  have hz64 : ∀ i, i < zs.length → 0 ≤ zs.getD i 0 ∧ zs.getD i 0 < 18446744073709551616 := fun i hi => by
    rw [hz i (by omega)]
    have h1 := numT_lt bs d i d
    have h2 : 2 ^ d ≤ 2 ^ 64 := Nat.pow_le_pow_right (by omega) hd2
    omega
  apply bits_eq (packTo_u8 zs d bs.length n) hu (packTo_len _ _ _ _)
  intro q hq
  rw [packTo_len] at hq
  have hb := pack_bit hz64 d bs.length n (by omega) (by omega) q
  rw [hb]
  by_cases hqn : q < n * d
  · have hqd : q / d < n := Nat.div_lt_of_lt_mul (by rw [Nat.mul_comm]; exact hqn)
    have hmd := Nat.mod_lt q hd
    rw [decide_eq_true hqn, Bool.true_and, hz _ hqd, Int.toNat_natCast, numT_bit, decide_eq_true hmd, Bool.true_and]
    congr 1
    rw [Nat.mul_comm]
    exact Nat.div_add_mod q d
  · rw [decide_eq_false hqn, Bool.false_and, hp q (by omega)]
end Go.Tk
