/- Bits of a byte; the bits behind the last one. Plain. -/
import Derived.Test.YtgajpekolamjbaaDoorRkP
import Derived.Lib.BitFns
set_option linter.unusedVariables false
set_option linter.unusedSimpArgs false
namespace Go.Tk
open Go Go.RowKit
theorem getD_out (d : List UInt8) (i : Nat) (h : d.length ≤ i) : d.getD i 0 = 0 := by
  rw [List.getD_eq_getElem?_getD, List.getElem?_eq_none h]; rfl
theorem byte_step : ∀ y : Fin 256, ∀ v : Fin 9, y.val / 2 ^ v.val * 2 ^ v.val ≠ 0 →
    v.val ≤ Lib.trailingZeros8 (y.val / 2 ^ v.val * 2 ^ v.val) ∧ Lib.trailingZeros8 (y.val / 2 ^ v.val * 2 ^ v.val) < 8 ∧ y.val.testBit (Lib.trailingZeros8 (y.val / 2 ^ v.val * 2 ^ v.val)) = true ∧
    (∀ j : Fin 8, v.val ≤ j.val → j.val < Lib.trailingZeros8 (y.val / 2 ^ v.val * 2 ^ v.val) → y.val.testBit j.val = false) ∧
    (y.val / 2 ^ v.val * 2 ^ v.val) &&& (y.val / 2 ^ v.val * 2 ^ v.val - 1) = y.val / 2 ^ (Lib.trailingZeros8 (y.val / 2 ^ v.val * 2 ^ v.val) + 1) * 2 ^ (Lib.trailingZeros8 (y.val / 2 ^ v.val * 2 ^ v.val) + 1) := by decide +kernel
theorem byte_end : ∀ y : Fin 256, ∀ v : Fin 9, y.val / 2 ^ v.val * 2 ^ v.val = 0 → ∀ j : Fin 8, v.val ≤ j.val → y.val.testBit j.val = false := by decide +kernel
theorem byte_ones : ∀ y : Fin 256, Lib.onesCount y.val = (List.range 8).foldl (fun a j => a + (if y.val.testBit j = true then 1 else 0)) 0 := by decide +kernel
theorem byte_pad : ∀ y : Fin 256, ∀ v : Fin 8, y.val / 2 ^ v.val = 0 → ∀ j : Fin 8, v.val ≤ j.val → y.val.testBit j.val = false := by decide +kernel
theorem byte_pad' : ∀ y : Fin 256, ∀ v : Fin 8, y.val / 2 ^ v.val ≠ 0 → ∃ j : Fin 8, v.val ≤ j.val ∧ y.val.testBit j.val = true := by decide +kernel
theorem bt_at (d : List UInt8) (q j : Nat) (h : j < 8) : btB d (8 * q + j) = (d.getD q 0).toNat.testBit j := by
  unfold btB
  rw [show (8 * q + j) / 8 = q by omega, show (8 * q + j) % 8 = j by omega]
theorem cnt_zero (d : List UInt8) (i : Nat) : ∀ k, (∀ j, j < k → btB d (i + j) = false) → cntB d (i + k) = cntB d i
  | 0, _ => rfl
  | k + 1, h => by
    rw [← Nat.add_assoc]
    simp only [cntB]
    rw [cnt_zero d i k (fun j hj => h j (by omega)), h k (by omega)]
    rfl
theorem cnt_byte (d : List UInt8) (q : Nat) : cntB d (8 * q + 8) = cntB d (8 * q) + Lib.onesCount (d.getD q 0).toNat := by
  have h := byte_ones ⟨(d.getD q 0).toNat, UInt8.toNat_lt _⟩
  simp only at h
  rw [h]
  have e : ∀ j, j < 8 → btB d (8 * q + j) = (d.getD q 0).toNat.testBit j := fun j hj => bt_at d q j hj
  show cntB d (8 * q + 7 + 1) = _
  simp only [cntB, List.range, List.range.loop, List.foldl_cons, List.foldl_nil]
  have e0 := e 0 (by decide)
  rw [Nat.add_zero] at e0
  rw [e0, e 1 (by decide), e 2 (by decide), e 3 (by decide), e 4 (by decide), e 5 (by decide), e 6 (by decide), e 7 (by decide)]
  omega
theorem pad_bits {d : List UInt8} {n : Nat} (hl : d.length = (n + 7) / 8) (hp : padB d n = true) (i : Nat) (hi : n ≤ i) : btB d i = false := by
  unfold padB at hp
  by_cases h8 : n % 8 = 0
  · unfold btB
    rw [getD_out _ _ (by omega)]
    simp
  · have h2 : (d.getD (n / 8) 0).toNat / 2 ^ (n % 8) = 0 := by simpa [h8] using hp
    by_cases hq : i / 8 = n / 8
    · have := byte_pad ⟨(d.getD (n / 8) 0).toNat, UInt8.toNat_lt _⟩ ⟨n % 8, by omega⟩ h2 ⟨i % 8, by omega⟩ (by simp only; omega)
      unfold btB
      rw [hq]; exact this
    · unfold btB
      rw [getD_out _ _ (by omega)]
      simp
theorem pad_cnt {d : List UInt8} {n : Nat} (hl : d.length = (n + 7) / 8) (hp : padB d n = true) (i : Nat) (hi : n ≤ i) : cntB d i = cntB d n := by
  have := cnt_zero d n (i - n) (fun j _ => pad_bits hl hp (n + j) (by omega))
  rwa [show n + (i - n) = i by omega] at this
theorem pad_not {d : List UInt8} {n : Nat} (hl : d.length = (n + 7) / 8) (hp : padB d n = false) : ∃ i, n ≤ i ∧ i < 8 * d.length ∧ btB d i = true := by
  unfold padB at hp
  simp only [Bool.or_eq_false_iff, beq_eq_false_iff_ne] at hp
  obtain ⟨h8, h2⟩ := hp
  obtain ⟨j, h3, h4⟩ := byte_pad' ⟨(d.getD (n / 8) 0).toNat, UInt8.toNat_lt _⟩ ⟨n % 8, by omega⟩ h2
  refine ⟨8 * (n / 8) + j.val, by simp only at h3; omega, by have := j.isLt; omega, ?_⟩
  rw [bt_at _ _ _ j.isLt]; exact h4
end Go.Tk
