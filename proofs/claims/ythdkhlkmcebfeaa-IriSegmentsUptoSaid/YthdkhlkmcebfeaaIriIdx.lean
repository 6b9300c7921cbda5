/- Runes that are ASCII ones are bytes: where a text has the first of some. Plain. -/
import Derived.Test.YthdkhlkmcebfeaaIriRune
import Derived.Test.YthdkhlkmcebfeaaIriU
set_option linter.unusedVariables false
set_option linter.unusedSimpArgs false
namespace Go.Tk
open Go Go.RowKit
theorem dec_high_byte (s : ByteArray) (pos : Nat) (h : pos < s.size) (hb : 128 ≤ s[pos].toNat) :
    128 ≤ (Utf8.decode s pos).1 ∧ 1 ≤ (Utf8.decode s pos).2 ∧ pos + (Utf8.decode s pos).2 ≤ s.size ∧ ∀ j, (hj : j < (Utf8.decode s pos).2) → (h' : pos + j < s.size) → 128 ≤ s[pos + j].toNat := by
  have hc : ∀ k, (pos + k < s.size && (s.get! (pos + k)).toNat / 64 == 2) = true → ∃ h : pos + k < s.size, 128 ≤ s[pos + k].toNat := by
    intro k hk
    simp only [Bool.and_eq_true, decide_eq_true_eq, beq_iff_eq] at hk
    obtain ⟨h1, h2⟩ := hk
    refine ⟨h1, ?_⟩
    rw [get!_lt h1] at h2
    omega
  have one : ∀ j, j < 1 → (h' : pos + j < s.size) → 128 ≤ s[pos + j].toNat := fun j hj h' => by
    obtain rfl : j = 0 := by omega
    exact hb
  unfold Utf8.decode
  simp only [Nat.add_zero, get!_lt h]
  rw [if_neg (by omega)]
  split
  · rename_i c1
    simp only [Bool.and_eq_true] at c1
    obtain ⟨k1, g1⟩ := hc 1 (by simpa using c1.2)
    split
    · refine ⟨by simpa using (by assumption : _ ≥ 0x80), by simp, by simp; omega, fun j hj h' => ?_⟩
      obtain rfl | rfl : j = 0 ∨ j = 1 := by simp at hj; omega
      · exact hb
      · exact g1
    · exact ⟨by simp [Utf8.runeError], by simp, by simp; omega, fun j hj h' => one j hj h'⟩
  split
  · rename_i c1
    simp only [Bool.and_eq_true] at c1
    obtain ⟨k1, g1⟩ := hc 1 (by simpa using c1.1.2)
    obtain ⟨k2, g2⟩ := hc 2 (by simpa using c1.2)
    split
    · rename_i c2
      simp only [Bool.and_eq_true, decide_eq_true_eq] at c2
      refine ⟨by have := c2.1; simp at this ⊢; omega, by simp, by simp; omega, fun j hj h' => ?_⟩
      obtain rfl | rfl | rfl : j = 0 ∨ j = 1 ∨ j = 2 := by simp at hj; omega
      · exact hb
      · exact g1
      · exact g2
    · exact ⟨by simp [Utf8.runeError], by simp, by simp; omega, fun j hj h' => one j hj h'⟩
  split
  · rename_i c1
    simp only [Bool.and_eq_true] at c1
    obtain ⟨k1, g1⟩ := hc 1 (by simpa using c1.1.1.2)
    obtain ⟨k2, g2⟩ := hc 2 (by simpa using c1.1.2)
    obtain ⟨k3, g3⟩ := hc 3 (by simpa using c1.2)
    split
    · rename_i c2
      simp only [Bool.and_eq_true, decide_eq_true_eq] at c2
      refine ⟨by have := c2.1; simp at this ⊢; omega, by simp, by simp; omega, fun j hj h' => ?_⟩
      obtain rfl | rfl | rfl | rfl : j = 0 ∨ j = 1 ∨ j = 2 ∨ j = 3 := by simp at hj; omega
      · exact hb
      · exact g1
      · exact g2
      · exact g3
    · exact ⟨by simp [Utf8.runeError], by simp, by simp; omega, fun j hj h' => one j hj h'⟩
  · exact ⟨by simp [Utf8.runeError], by simp, by simp; omega, fun j hj h' => one j hj h'⟩
theorem getElem_list (s : ByteArray) (i : Nat) (h : i < s.size) : s[i] = s.data.toList[i]'(by rw [← Lib.size_eq]; exact h) := rfl
theorem unt_skip (q : UInt8 → Bool) : ∀ (l : List UInt8) (k : Nat), k ≤ l.length → (∀ b ∈ l.take k, q b = false) → unt q l = k + unt q (l.drop k)
  | l, 0, _, _ => by simp
  | [], k + 1, h, _ => by simp at h
  | b :: l, k + 1, h, hn => by
    have hb : q b = false := hn b (by simp)
    simp only [unt, List.drop_succ_cons]
    rw [if_neg (by simp [hb]), unt_skip q l k (by simpa using h) (fun x hx => hn x (by simp [hx]))]
    omega
/-- As IndexFunc looks at runes, so one looks at bytes, if what is looked for is ASCII. -/
theorem idxFrom_bytes (p : Nat → Bool) (q : UInt8 → Bool) (hp : ∀ x, p x = true → x < 128) (hq : ∀ b, q b = p b.toNat) (s : ByteArray) : ∀ (f pos : Nat), s.size ≤ pos + f → pos ≤ s.size →
    Lib.idxFuncFrom p true s f pos = if pos + unt q (s.data.toList.drop pos) < s.data.toList.length then ((pos + unt q (s.data.toList.drop pos) : Nat) : Int) else -1
  | 0, pos, h, h' => by
    rw [← Lib.size_eq, if_neg (by omega)]; rfl
  | f + 1, pos, h, h' => by
    simp only [Lib.idxFuncFrom]
    by_cases hps : pos < s.size
    · rw [if_pos hps]
      have hd : s.data.toList.drop pos = s[pos] :: s.data.toList.drop (pos + 1) := List.drop_eq_getElem_cons (by rw [← Lib.size_eq]; exact hps)
      by_cases hb : s[pos].toNat < 128
      · rw [dec_low_byte s pos hps hb]
        simp only
        cases hpb : p s[pos].toNat with
        | true =>
          rw [if_pos rfl, hd]
          have : unt q (s[pos] :: s.data.toList.drop (pos + 1)) = 0 := by simp [unt, hq, hpb]
          rw [this, Nat.add_zero, if_pos (by rw [← Lib.size_eq]; exact hps)]
        | false =>
          rw [if_neg (by simp), idxFrom_bytes p q hp hq s f (pos + 1) (by omega) (by omega), hd]
          have : unt q (s[pos] :: s.data.toList.drop (pos + 1)) = unt q (s.data.toList.drop (pos + 1)) + 1 := by simp [unt, hq, hpb]
          rw [this, show pos + (unt q (s.data.toList.drop (pos + 1)) + 1) = pos + 1 + unt q (s.data.toList.drop (pos + 1)) by omega]
      · obtain ⟨h1, h2, h3, h4⟩ := dec_high_byte s pos hps (by omega)
        obtain ⟨R, hR⟩ : ∃ R, (Utf8.decode s pos).1 = R := ⟨_, rfl⟩
        obtain ⟨K, hK⟩ : ∃ K, (Utf8.decode s pos).2 = K := ⟨_, rfl⟩
        rw [hR] at h1
        rw [hK] at h2 h3 h4
        rw [hR, hK]
        have hpr : p R = false := by
          cases e : p R
          · rfl
          · have := hp R e; omega
        rw [hpr, if_neg (by simp), idxFrom_bytes p q hp hq s f (pos + K) (by omega) h3]
        have hl : (s.data.toList.drop pos).length = s.size - pos := by rw [List.length_drop, ← Lib.size_eq]
        have hsk := unt_skip q (s.data.toList.drop pos) K (by omega) (fun b hb => by
          obtain ⟨j, hj, rfl⟩ := List.getElem_of_mem hb
          have hj' : j < K := by rw [List.length_take] at hj; omega
          rw [hq]
          cases e : p (((s.data.toList.drop pos).take K)[j]).toNat
          · rfl
          · have hlt := hp _ e
            simp only [List.getElem_take, List.getElem_drop] at hlt
            have := h4 j hj' (by omega)
            rw [getElem_list s _ (by omega)] at this
            omega)
        rw [hsk, List.drop_drop, ← Nat.add_assoc]
    · rw [if_neg hps, if_neg (by rw [← Lib.size_eq]; omega)]
theorem idx_bytes (p : Nat → Bool) (q : UInt8 → Bool) (hp : ∀ x, p x = true → x < 128) (hq : ∀ b, q b = p b.toNat) (s : ByteArray) :
    Lib.idxFunc p true s = if unt q s.data.toList < s.data.toList.length then ((unt q s.data.toList : Nat) : Int) else -1 := by
  have := idxFrom_bytes p q hp hq s s.size 0 (by omega) (by omega)
  simpa [Lib.idxFunc] using this
end Go.Tk
