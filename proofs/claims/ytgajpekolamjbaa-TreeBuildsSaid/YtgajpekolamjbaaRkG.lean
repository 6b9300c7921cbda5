/- What a vector's bytes answer: counts. Plain. -/
import Derived.Test.YtgajpekolamjbaaRkT
set_option linter.unusedVariables false
set_option linter.unusedSimpArgs false
namespace Go.Tk
open Go Go.RowKit
theorem getD_nums {l : List UInt8} {i x : Nat} (h : (nums l)[i]? = some ((x : Nat) : Int)) : (l.getD i 0).toNat = x := by
  rw [nums_get?] at h
  cases hq : l[i]? with
  | none => rw [hq] at h; simp at h
  | some b =>
    rw [hq] at h
    rw [List.getD_eq_getElem?_getD, hq]
    have : ((b.toNat : Nat) : Int) = ((x : Nat) : Int) := by simpa using h
    have : b.toNat = x := by omega
    exact this
theorem f4_of {l : List UInt8} {o v : Nat} (h : ∀ r, r < 4 → (nums l)[o + r]? = some ((v / 256 ^ r % 256 : Nat) : Int)) (hv : v < 4294967296) : f4 l o = v := by
  have h0 := getD_nums (h 0 (by decide))
  have h1 := getD_nums (h 1 (by decide))
  have h2 := getD_nums (h 2 (by decide))
  have h3 := getD_nums (h 3 (by decide))
  rw [Nat.add_zero] at h0
  unfold f4
  rw [h0, h1, h2, h3]
  have e1 : (256 : Nat) ^ 1 = 256 := rfl
  have e2 : (256 : Nat) ^ 2 = 65536 := rfl
  have e3 : (256 : Nat) ^ 3 = 16777216 := rfl
  have e0 : (256 : Nat) ^ 0 = 1 := rfl
  rw [e0, e1, e2, e3]
  omega
theorem f2_of {l : List UInt8} {o v : Nat} (h : ∀ r, r < 2 → (nums l)[o + r]? = some ((v / 256 ^ r % 256 : Nat) : Int)) (hv : v < 65536) : f2 l o = v := by
  have h0 := getD_nums (h 0 (by decide))
  have h1 := getD_nums (h 1 (by decide))
  rw [Nat.add_zero] at h0
  unfold f2
  rw [h0, h1]
  have e1 : (256 : Nat) ^ 1 = 256 := rfl
  have e0 : (256 : Nat) ^ 0 = 1 := rfl
  rw [e0, e1]
  omega
theorem wh_head (d : List UInt8) (N : Nat) (r : Nat) (h : r < 4) : (nums (whB d N))[0 + r]? = some ((N / 256 ^ r % 256 : Nat) : Int) ∧ (nums (whB d N))[4 + r]? = some ((cntB d N / 256 ^ r % 256 : Nat) : Int) := by
  have hw : nums (whB d N) = nums (leB N 4) ++ (nums (leB (cntB d N) 4) ++ nums (d ++ catB 4 (grL d N) ++ catB 2 (smL d N) ++ catB 4 (mkL d N))) := by
    unfold whB
    simp only [nums_append, List.append_assoc]
  rw [hw]
  refine ⟨?_, ?_⟩
  · rw [Nat.zero_add, List.getElem?_append_left (by rw [nums_len, le_len]; exact h), le_nums h]
  · rw [List.getElem?_append_right (by rw [nums_len, le_len]; omega), nums_len, le_len, Nat.add_sub_cancel_left, List.getElem?_append_left (by rw [nums_len, le_len]; exact h), le_nums h]
theorem wh_n {d : List UInt8} {N : Nat} (hN : N ≤ 67108864) : f4 (whB d N) 0 = N := f4_of (fun r h => (wh_head d N r h).1) (by omega)
theorem wh_m {d : List UInt8} {N : Nat} (hN : N ≤ 67108864) : f4 (whB d N) 4 = cntB d N := f4_of (fun r h => (wh_head d N r h).2) (by have := cnt_le d N; omega)
theorem o_eq {d : List UInt8} {N : Nat} (hl : d.length = (N + 7) / 8) : oG N = grO d ∧ oS N = smO d N ∧ oM N = mkO d N ∧ oE N (cntB d N) = enO d N := by
  have e1 : oG N = grO d := by unfold oG grO; omega
  have e2 : oS N = smO d N := by unfold oS smO; rw [e1]
  have e3 : oM N = mkO d N := by unfold oM mkO; rw [e2]
  exact ⟨e1, e2, e3, by unfold oE enO; rw [e3]⟩
theorem dat_wh (d : List UInt8) (N : Nat) : ∃ t, datB (whB d N) = d ++ t := by
  refine ⟨catB 4 (grL d N) ++ (catB 2 (smL d N) ++ catB 4 (mkL d N)), ?_⟩
  have e : whB d N = (leB N 4 ++ leB (cntB d N) 4) ++ (d ++ (catB 4 (grL d N) ++ (catB 2 (smL d N) ++ catB 4 (mkL d N)))) := by unfold whB; simp only [List.append_assoc]
  unfold datB
  rw [e, List.drop_left' (by simp [le_len])]
theorem bt_app (d t : List UInt8) (i : Nat) (h : i < 8 * d.length) : btB (d ++ t) i = btB d i := by
  unfold btB
  rw [List.getD_eq_getElem?_getD, List.getElem?_append_left (by omega), ← List.getD_eq_getElem?_getD]
theorem cnt_app (d t : List UInt8) : ∀ i, i ≤ 8 * d.length → cntB (d ++ t) i = cntB d i
  | 0, _ => rfl
  | i + 1, h => by simp only [cntB]; rw [cnt_app d t i (by omega), bt_app d t i (by omega)]
/-- Rank of right bytes. -/
theorem rank_wh {d : List UInt8} {N : Nat} (hl : d.length = (N + 7) / 8) (hN : N ≤ 67108864) (i : Int) : rankV (whB d N) N (cntB d N) i = cntB d (min i.toNat N) := by
  unfold rankV
  by_cases h1 : i ≤ 0 ∨ N = 0
  · rw [if_pos h1]
    have : min i.toNat N = 0 := by omega
    rw [this]; rfl
  rw [if_neg h1]
  by_cases h2 : (N : Int) ≤ i
  · rw [if_pos h2, show min i.toNat N = N by omega]
  rw [if_neg h2]
  obtain ⟨k, rfl⟩ : ∃ k : Nat, i = k := ⟨i.toNat, by omega⟩
  rw [Int.toNat_natCast, show min k N = k by omega]
  obtain ⟨e1, e2, _, _⟩ := o_eq hl
  obtain ⟨t, ht⟩ := dat_wh d N
  have vg : Vt d N (2048, k / 2048, cntB d (k / 2048 * 2048)) := .inl ⟨rfl, gr_get d (k / 2048) N (by omega)⟩
  have vs : Vt d N (256, k / 256, cntB d (k / 256 * 256) - cntB d (k / 256 / 8 * 2048)) := .inr (.inl ⟨rfl, sm_get d (k / 256) N (by omega)⟩)
  have g1 := cnt_le d (k / 2048 * 2048)
  have g2 := cnt_add d (k / 256 / 8 * 2048) (k / 256 * 256 - k / 256 / 8 * 2048)
  rw [show k / 256 / 8 * 2048 + (k / 256 * 256 - k / 256 / 8 * 2048) = k / 256 * 256 by omega] at g2
  have g3 := cnt_mono d (show k / 256 * 256 ≤ k by omega)
  have g4 := cnt_le d k
  have a1 : f4 (whB d N) (oG N + 4 * (k / 2048)) = cntB d (k / 2048 * 2048) := by
    rw [e1]
    exact f4_of (fun r h => (wh_at vg).2 r h) (by omega)
  have a2 : f2 (whB d N) (oS N + 2 * (k / 256)) = cntB d (k / 256 * 256) - cntB d (k / 256 / 8 * 2048) := by
    rw [e2]
    exact f2_of (fun r h => (wh_at vs).2 r h) (by omega)
  have e8 : k / 256 / 8 * 2048 = k / 2048 * 2048 := by omega
  rw [e8] at a2 g2
  have hr : rawV (whB d N) N k = cntB d k := by
    unfold rawV
    rw [a1, a2, ht, cnt_app d t k (by omega), cnt_app d t _ (by omega)]
    omega
  rw [hr]; omega
end Go.Tk
