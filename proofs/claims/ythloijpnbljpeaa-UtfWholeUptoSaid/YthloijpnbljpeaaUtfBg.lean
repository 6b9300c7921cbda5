/- What begins a scalar's bytes. Plain. -/
import Derived.Test.YthloijpnbljpeaaUtfJn
set_option linter.unusedVariables false
set_option linter.unusedSimpArgs false
namespace Go.Tk
open Go Go.RowKit
theorem tk_drop_eq {α} (l : List α) (n : Nat) (h : n ≤ l.length) : (l.take n).length = n := by simp; omega
/-- The bytes behind the first ones can be all the least, or all the greatest. -/
theorem fill_ok {r : Int} (hr : scalarB r = true) (k : Nat) (h1 : 1 ≤ k) (h2 : k < (encZ r).length) : ∃ r', scalarB r' = true ∧ (encZ r' = (encZ r).take k ++ List.replicate ((encZ r).length - k) 128 ∨ encZ r' = (encZ r).take k ++ List.replicate ((encZ r).length - k) 191) := by
  have hs := (scalarB_iff r).1 hr
  by_cases a : r < 128
  · rw [encZ1 a] at h2; simp at h2; omega
  by_cases b : r < 2048
  · rw [encZ2 a b] at h2 ⊢
    obtain rfl : k = 1 := by simp at h2; omega
    refine ⟨r / 64 * 64, (scalarB_iff _).2 (by omega), .inl ?_⟩
    rw [encZ2 (by omega) (by omega)]
    simp [List.replicate] <;> omega
  by_cases c : r < 65536
  · rw [encZ3 a b c] at h2 ⊢
    obtain rfl | rfl : k = 1 ∨ k = 2 := by simp at h2; omega
    · by_cases d : r < 4096
      · refine ⟨4095, by decide, .inr ?_⟩
        rw [encZ3 (by omega) (by omega) (by omega)]
        simp [List.replicate] <;> omega
      · refine ⟨r / 4096 * 4096, (scalarB_iff _).2 (by omega), .inl ?_⟩
        rw [encZ3 (by omega) (by omega) (by omega)]
        simp [List.replicate] <;> omega
    · refine ⟨r / 64 * 64, (scalarB_iff _).2 (by omega), .inl ?_⟩
      rw [encZ3 (by omega) (by omega) (by omega)]
      simp [List.replicate] <;> omega
  · rw [encZ4 a b c] at h2 ⊢
    obtain rfl | rfl | rfl : k = 1 ∨ k = 2 ∨ k = 3 := by simp at h2; omega
    · by_cases d : r < 262144
      · refine ⟨262143, by decide, .inr ?_⟩
        rw [encZ4 (by omega) (by omega) (by omega)]
        simp [List.replicate] <;> omega
      · refine ⟨r / 262144 * 262144, (scalarB_iff _).2 (by omega), .inl ?_⟩
        rw [encZ4 (by omega) (by omega) (by omega)]
        simp [List.replicate] <;> omega
    · refine ⟨r / 4096 * 4096, (scalarB_iff _).2 (by omega), .inl ?_⟩
      rw [encZ4 (by omega) (by omega) (by omega)]
      simp [List.replicate] <;> omega
    · refine ⟨r / 64 * 64, (scalarB_iff _).2 (by omega), .inl ?_⟩
      rw [encZ4 (by omega) (by omega) (by omega)]
      simp [List.replicate] <;> omega
/-- Some bytes behind these make a scalar of so many bytes: the least ones do, or the greatest. -/
def fillB (l : List UInt8) (n : Nat) : Bool := decide ((dec (l ++ List.replicate (n - l.length) 128)).2 = n) || decide ((dec (l ++ List.replicate (n - l.length) 191)).2 = n)
/-- The first ones of some scalar's bytes, but not all. -/
def bgB : List UInt8 → Bool
  | [] => false
  | b :: t => decide (t.length + 1 < ldN b) && fillB (b :: t) (ldN b)
theorem dec_ld {b : UInt8} {t : List UInt8} (h : (dec (b :: t)).2 ≠ 0) : (dec (b :: t)).2 = ldN b := by
  simp only [dec] at h ⊢
  split at h
  · exact absurd rfl h
  · rename_i h1
    rw [if_neg h1]
    cases hq : contR (t.take (ldN b - 1)) (ldR b) with
    | none => rw [hq] at h; exact absurd rfl h
    | some r =>
      rw [hq] at h
      simp only at h ⊢
      split at h
      · exact absurd rfl h
      · rename_i h2; rw [if_neg h2]
theorem nums_app (a b : List UInt8) : nums (a ++ b) = nums a ++ nums b := by simp [nums]
theorem nums_rep (n : Nat) (b : UInt8) : nums (List.replicate n b) = List.replicate n (b.toNat : Int) := by simp [nums]
theorem fill_of {l t : List UInt8} (hl : l ≠ []) (h : l.length < (dec (l ++ t)).2) : fillB l (dec (l ++ t)).2 = true := by
  obtain ⟨r, n, hd⟩ : ∃ r n, dec (l ++ t) = (r, n) := ⟨_, _, rfl⟩
  rw [hd] at h ⊢
  simp only at h ⊢
  have hp := List.length_pos_iff.2 hl
  obtain ⟨hr, he, hn⟩ := dec_yes hd (by omega)
  have hlen : (encZ r).length = n := by rw [he, nums_len, List.length_take]; omega
  have htk : (encZ r).take l.length = nums l := by
    rw [he]
    have e : (l ++ t).take n = l ++ t.take (n - l.length) := by rw [List.take_append]; rw [List.take_of_length_le (by omega)]
    rw [e, nums_app, List.take_left' (by rw [nums_len])]
  obtain ⟨r', hr', h3⟩ := fill_ok hr l.length hp (by omega)
  rw [htk, hlen] at h3
  unfold fillB
  rw [Bool.or_eq_true]
  rcases h3 with h3 | h3
  · left
    have e : encZ r' = nums (l ++ List.replicate (n - l.length) 128) := by rw [h3, nums_app, nums_rep]; rfl
    rw [dec_enc _ r' hr' ⟨[], by rw [List.append_nil, e]⟩, h3]
    simp [nums_len]; omega
  · right
    have e : encZ r' = nums (l ++ List.replicate (n - l.length) 191) := by rw [h3, nums_app, nums_rep]; rfl
    rw [dec_enc _ r' hr' ⟨[], by rw [List.append_nil, e]⟩, h3]
    simp [nums_len]; omega
/-- What does not begin a scalar's bytes, and is no scalar, never becomes one. -/
theorem bg_never {l : List UInt8} (hl : l ≠ []) (h0 : (dec l).2 = 0) (hb : bgB l = false ∨ 4 ≤ l.length) (t : List UInt8) : (dec (l ++ t)).2 = 0 := by
  by_cases h : (dec (l ++ t)).2 = 0
  · exact h
  exfalso
  have hle := dec_le (l ++ t)
  obtain ⟨n, hn⟩ : ∃ n, n = (dec (l ++ t)).2 := ⟨_, rfl⟩
  by_cases hm : n ≤ l.length
  · rw [← hn] at h hle
    have ht : (l ++ t).take n = l.take n := List.take_append_of_le_length hm
    have h2 := (dec_take (l ++ t) n (by omega) hle.2).2 hn.symm
    rw [ht] at h2
    have := (dec_take l n (by omega) hm).1 h2
    omega
  · have hf := fill_of (t := t) hl (by omega)
    cases l with
    | nil => exact hl rfl
    | cons b l' =>
      have hld : (dec (b :: l' ++ t)).2 = ldN b := dec_ld (t := l' ++ t) h
      rw [hld] at hf
      rcases hb with hb | hb
      · simp only [bgB] at hb
        rw [hf] at hb
        simp at hb
        rw [hn, hld] at hm
        simp at hm
        omega
      · omega
end Go.Tk
