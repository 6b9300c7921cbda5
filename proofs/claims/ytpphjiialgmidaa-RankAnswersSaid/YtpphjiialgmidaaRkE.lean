/- What Each goes through. Plain. -/
import Derived.Test.YtpphjiialgmidaaRkN
set_option linter.unusedVariables false
set_option linter.unusedSimpArgs false
namespace Go.Tk
open Go Go.RowKit
/-- The places from i on, up to N, where f holds. -/
def eachL (f : Nat → Bool) (N i : Nat) : List Nat := (List.range' i (N - i)).filter f
theorem each_end {f : Nat → Bool} {N i : Nat} (h : N ≤ i) : eachL f N i = [] := by
  unfold eachL; rw [show N - i = 0 by omega]; rfl
theorem each_hit {f : Nat → Bool} {N i : Nat} (h : i < N) (hf : f i = true) : eachL f N i = i :: eachL f N (i + 1) := by
  unfold eachL
  rw [show N - i = (N - (i + 1)) + 1 by omega, List.range'_succ, List.filter_cons_of_pos hf]
theorem each_miss {f : Nat → Bool} {N i : Nat} (hf : f i = false) : eachL f N i = eachL f N (i + 1) := by
  by_cases h : i < N
  · unfold eachL
    rw [show N - i = (N - (i + 1)) + 1 by omega, List.range'_succ, List.filter_cons_of_neg (by rw [hf]; decide)]
  · rw [each_end (by omega), each_end (by omega)]
theorem each_skip {f : Nat → Bool} {N i : Nat} : ∀ k, (∀ j, j < k → f (i + j) = false) → eachL f N i = eachL f N (i + k)
  | 0, _ => rfl
  | k + 1, h => by rw [each_skip k (fun j hj => h j (by omega)), each_miss (h k (by omega))]; rfl
theorem each_len (f : Nat → Bool) (N i : Nat) : (eachL f N i).length ≤ N - i := by
  unfold eachL
  have := List.length_filter_le f (List.range' i (N - i))
  simpa using this
theorem each_congr {f g : Nat → Bool} {N i : Nat} (h : ∀ j, i ≤ j → j < N → f j = g j) : eachL f N i = eachL g N i := by
  unfold eachL
  apply List.filter_congr
  intro j hj
  rw [List.mem_range'_1] at hj
  exact h j hj.1 (by omega)
theorem each_mem {f : Nat → Bool} {N i j : Nat} : j ∈ eachL f N i ↔ i ≤ j ∧ j < N ∧ f j = true := by
  unfold eachL
  rw [List.mem_filter, List.mem_range'_1]
  exact ⟨fun ⟨⟨h1, h2⟩, h3⟩ => ⟨h1, by omega, h3⟩, fun ⟨h1, h2, h3⟩ => ⟨⟨h1, by omega⟩, h3⟩⟩
/-- The (n)th of them, by counts. -/
theorem each_cnt (d : List UInt8) (N : Nat) : ∀ (m i : Nat), N - i ≤ m → (eachL (btB d) N i).length = cntB d N - cntB d (min i N) ∧ ∀ k (h : k < (eachL (btB d) N i).length), i ≤ (eachL (btB d) N i)[k] ∧ (eachL (btB d) N i)[k] < N ∧ btB d (eachL (btB d) N i)[k] = true ∧ cntB d (eachL (btB d) N i)[k] = cntB d (min i N) + k
  | 0, i, hm => by
    have : eachL (btB d) N i = [] := each_end (by omega)
    rw [this]
    refine ⟨?_, fun k h => by simp at h⟩
    rw [show min i N = N by omega]; simp
  | m + 1, i, hm => by
    by_cases hi : i < N
    · have ih := each_cnt d N m (i + 1) (by omega)
      rw [show min (i + 1) N = i + 1 by omega] at ih
      rw [show min i N = i by omega]
      have hs := cnt_succ d i
      have hmo := cnt_mono d (show i + 1 ≤ N by omega)
      cases hb : btB d i with
      | true =>
        rw [hb] at hs
        simp only [if_true] at hs
        have e := each_hit hi hb
        obtain ⟨ih1, ih2⟩ := ih
        constructor
        · rw [e, List.length_cons, ih1]; omega
        · intro k h
          have hk : k < (i :: eachL (btB d) N (i + 1)).length := by rw [← e]; exact h
          have eg : (eachL (btB d) N i)[k] = (i :: eachL (btB d) N (i + 1))[k] := by simp only [e]
          rw [eg]
          cases k with
          | zero => simp only [List.getElem_cons_zero]; exact ⟨Nat.le_refl _, hi, hb, by omega⟩
          | succ k =>
            simp only [List.getElem_cons_succ]
            have := ih2 k (by simpa using hk)
            exact ⟨by omega, this.2.1, this.2.2.1, by omega⟩
      | false =>
        rw [hb] at hs
        simp at hs
        have e := each_miss (N := N) hb
        obtain ⟨ih1, ih2⟩ := ih
        constructor
        · rw [e, ih1]; omega
        · intro k h
          have hk : k < (eachL (btB d) N (i + 1)).length := by rw [← e]; exact h
          have eg : (eachL (btB d) N i)[k] = (eachL (btB d) N (i + 1))[k] := by simp only [e]
          rw [eg]
          have := ih2 k hk
          exact ⟨by omega, this.2.1, this.2.2.1, by omega⟩
    · have : eachL (btB d) N i = [] := each_end (by omega)
      rw [this]
      refine ⟨?_, fun k h => by simp at h⟩
      rw [show min i N = N by omega]; simp
theorem byte_shr : ∀ y : Fin 256, ∀ v : Fin 8, y.val / 2 ^ v.val ≠ 0 →
    v.val + Lib.trailingZeros8 (y.val / 2 ^ v.val) < 8 ∧ y.val.testBit (v.val + Lib.trailingZeros8 (y.val / 2 ^ v.val)) = true ∧
    (∀ j : Fin 8, v.val ≤ j.val → j.val < v.val + Lib.trailingZeros8 (y.val / 2 ^ v.val) → y.val.testBit j.val = false) := by decide +kernel
/-- One byte's step. -/
theorem each_zero {d : List UInt8} {N i : Nat} (h : (d.getD (i / 8) 0).toNat / 2 ^ (i % 8) = 0) : eachL (btB d) N i = eachL (btB d) N (i / 8 * 8 + 8) := by
  have hb := byte_pad ⟨(d.getD (i / 8) 0).toNat, UInt8.toNat_lt _⟩ ⟨i % 8, by omega⟩ h
  have := each_skip (f := btB d) (N := N) (i := i) (i / 8 * 8 + 8 - i) (fun j hj => by
    unfold btB
    rw [show (i + j) / 8 = i / 8 by omega]
    exact hb ⟨(i + j) % 8, by omega⟩ (by simp only; omega))
  rwa [show i + (i / 8 * 8 + 8 - i) = i / 8 * 8 + 8 by omega] at this
theorem each_next {d : List UInt8} {N i t : Nat} (h : (d.getD (i / 8) 0).toNat / 2 ^ (i % 8) ≠ 0) (ht : t = Lib.trailingZeros8 ((d.getD (i / 8) 0).toNat / 2 ^ (i % 8))) :
    i % 8 + t < 8 ∧ btB d (i + t) = true ∧ eachL (btB d) N i = eachL (btB d) N (i + t) := by
  obtain ⟨h1, h2, h3⟩ := byte_shr ⟨(d.getD (i / 8) 0).toNat, UInt8.toNat_lt _⟩ ⟨i % 8, by omega⟩ h
  simp only [← ht] at h1 h2 h3
  refine ⟨h1, ?_, each_skip t (fun j hj => ?_)⟩
  · unfold btB
    rw [show (i + t) / 8 = i / 8 by omega, show (i + t) % 8 = i % 8 + t by omega]; exact h2
  · unfold btB
    rw [show (i + j) / 8 = i / 8 by omega]
    exact h3 ⟨(i + j) % 8, by omega⟩ (by simp only; omega) (by simp only; omega)
end Go.Tk
