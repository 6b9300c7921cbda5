/- A vector's bits, counts and marks. Plain. -/
import Derived.Test.YtgajpekolamjbaaBytes
set_option linter.unusedVariables false
set_option linter.unusedSimpArgs false
namespace Go.Tk
open Go Go.RowKit
def btB (d : List UInt8) (i : Nat) : Bool := (d.getD (i / 8) 0).toNat.testBit (i % 8)
def cntB (d : List UInt8) : Nat → Nat
  | 0 => 0
  | i + 1 => cntB d i + (if btB d i = true then 1 else 0)
theorem cnt_le (d : List UInt8) : ∀ i, cntB d i ≤ i
  | 0 => Nat.le_refl _
  | i + 1 => by have := cnt_le d i; simp only [cntB]; split <;> omega
theorem cnt_add (d : List UInt8) (i : Nat) : ∀ k, cntB d i ≤ cntB d (i + k) ∧ cntB d (i + k) ≤ cntB d i + k
  | 0 => ⟨Nat.le_refl _, Nat.le_refl _⟩
  | k + 1 => by
    have := cnt_add d i k
    rw [← Nat.add_assoc]
    simp only [cntB]
    split <;> omega
theorem cnt_mono (d : List UInt8) {i j : Nat} (h : i ≤ j) : cntB d i ≤ cntB d j := by
  have := (cnt_add d i (j - i)).1
  rwa [show i + (j - i) = j by omega] at this
/-- The counts ahead of the great places, since the great place ahead of the small ones; the places of the 0th, 512th, .. one. -/
def grL (d : List UInt8) : Nat → List Nat
  | 0 => []
  | i + 1 => grL d i ++ (if i % 2048 = 0 then [cntB d i] else [])
def smL (d : List UInt8) : Nat → List Nat
  | 0 => []
  | i + 1 => smL d i ++ (if i % 256 = 0 then [cntB d i - cntB d (i / 2048 * 2048)] else [])
def mkL (d : List UInt8) : Nat → List Nat
  | 0 => []
  | i + 1 => mkL d i ++ (if btB d i = true ∧ cntB d i % 512 = 0 then [i] else [])
theorem gr_len (d : List UInt8) : ∀ i, (grL d i).length = (i + 2047) / 2048
  | 0 => rfl
  | i + 1 => by
    have := gr_len d i
    simp only [grL, List.length_append]
    split
    · simp; omega
    · simp; omega
theorem sm_len (d : List UInt8) : ∀ i, (smL d i).length = (i + 255) / 256
  | 0 => rfl
  | i + 1 => by
    have := sm_len d i
    simp only [smL, List.length_append]
    split
    · simp; omega
    · simp; omega
theorem mk_len (d : List UInt8) : ∀ i, (mkL d i).length = (cntB d i + 511) / 512
  | 0 => by simp [mkL, cntB]
  | i + 1 => by
    have := mk_len d i
    simp only [mkL, cntB, List.length_append]
    by_cases hb : btB d i = true
    · by_cases hm : cntB d i % 512 = 0
      · rw [if_pos ⟨hb, hm⟩, if_pos hb]; simp; omega
      · rw [if_neg (fun h => hm h.2), if_pos hb]; simp; omega
    · rw [if_neg (fun h => hb h.1), if_neg hb]; simpa using this
theorem gr_get (d : List UInt8) (j i : Nat) (h : j * 2048 < i) : (grL d i)[j]? = some (cntB d (j * 2048)) := by
  induction i with
  | zero => omega
  | succ i ih =>
    have hl := gr_len d i
    simp only [grL]
    by_cases hj : j * 2048 < i
    · rw [List.getElem?_append_left (by omega)]; exact ih hj
    · have hi : i = j * 2048 := by omega
      rw [List.getElem?_append_right (by omega), if_pos (by omega), hl, hi]
      rw [show j - (j * 2048 + 2047) / 2048 = 0 by omega]
      rfl
theorem sm_get (d : List UInt8) (j i : Nat) (h : j * 256 < i) : (smL d i)[j]? = some (cntB d (j * 256) - cntB d (j / 8 * 2048)) := by
  induction i with
  | zero => omega
  | succ i ih =>
    have hl := sm_len d i
    simp only [smL]
    by_cases hj : j * 256 < i
    · rw [List.getElem?_append_left (by omega)]; exact ih hj
    · have hi : i = j * 256 := by omega
      rw [List.getElem?_append_right (by omega), if_pos (by omega), hl, hi]
      rw [show j - (j * 256 + 255) / 256 = 0 by omega, show j * 256 / 2048 * 2048 = j / 8 * 2048 by omega]
      rfl
theorem mk_get (d : List UInt8) : ∀ i v, v < i → btB d v = true → cntB d v % 512 = 0 → (mkL d i)[cntB d v / 512]? = some v
  | 0, v, h, _, _ => by omega
  | i + 1, v, h, hb, hm => by
    have hl := mk_len d i
    simp only [mkL]
    by_cases hv : v < i
    · have h1 := mk_get d i v hv hb hm
      have := (List.getElem?_eq_some_iff.1 h1).1
      rw [List.getElem?_append_left this]; exact h1
    · obtain rfl : v = i := by omega
      rw [List.getElem?_append_right (by omega), if_pos ⟨hb, hm⟩, hl]
      rw [show cntB d v / 512 - (cntB d v + 511) / 512 = 0 by omega]
      rfl
/-- The place of a one by its number. -/
theorem sel_ex (d : List UInt8) : ∀ n k, k < cntB d n → ∃ v, v < n ∧ btB d v = true ∧ cntB d v = k
  | 0, k, h => by simp [cntB] at h
  | n + 1, k, h => by
    simp only [cntB] at h
    by_cases h1 : k < cntB d n
    · obtain ⟨v, a, b, c⟩ := sel_ex d n k h1
      exact ⟨v, by omega, b, c⟩
    · split at h
      · rename_i hb
        exact ⟨n, by omega, hb, by omega⟩
      · omega
theorem mk_val (d : List UInt8) (n k : Nat) (h : k * 512 < cntB d n) : ∃ v, v < n ∧ btB d v = true ∧ cntB d v = k * 512 ∧ (mkL d n)[k]? = some v := by
  obtain ⟨v, a, b, c⟩ := sel_ex d n (k * 512) h
  have := mk_get d n v a b (by omega)
  rw [c, Nat.mul_div_cancel _ (by decide)] at this
  exact ⟨v, a, b, c, this⟩
/-- A number of so many bytes, its lowest first. -/
def leB (v : Nat) : Nat → List UInt8
  | 0 => []
  | k + 1 => UInt8.ofNat (v % 256) :: leB (v / 256) k
theorem le_len (v : Nat) : ∀ k, (leB v k).length = k
  | 0 => rfl
  | k + 1 => by simp [leB, le_len (v / 256) k]
theorem le_get (k : Nat) : ∀ (v i : Nat), i < k → (leB v k)[i]? = some (UInt8.ofNat (v / 256 ^ i % 256)) := by
  induction k with
  | zero => intro v i h; omega
  | succ k ih =>
    intro v i h
    cases i with
    | zero => simp [leB]
    | succ i =>
      simp only [leB, List.getElem?_cons_succ]
      rw [ih (v / 256) i (by omega), Nat.div_div_eq_div_mul, Nat.pow_succ, Nat.mul_comm 256]
def catB (k : Nat) (L : List Nat) : List UInt8 := L.flatMap fun v => leB v k
theorem cat_nil (k : Nat) : catB k [] = [] := rfl
theorem cat_snoc (k : Nat) (L : List Nat) (v : Nat) : catB k (L ++ [v]) = catB k L ++ leB v k := by simp [catB]
theorem cat_len (k : Nat) (L : List Nat) : (catB k L).length = k * L.length := by
  induction L with
  | nil => rfl
  | cons a L ih => simp only [catB, List.flatMap_cons, List.length_append, List.length_cons] at ih ⊢; rw [ih, le_len, Nat.mul_succ]; omega
theorem cat_get (k : Nat) : ∀ (L : List Nat) (j v i : Nat), L[j]? = some v → i < k → (catB k L)[k * j + i]? = (leB v k)[i]?
  | [], j, v, i, h, _ => by simp at h
  | a :: L, 0, v, i, h, hi => by
    obtain rfl : a = v := by simpa using h
    simp only [catB, List.flatMap_cons, Nat.mul_zero, Nat.zero_add]
    rw [List.getElem?_append_left (by rw [le_len]; exact hi)]
  | a :: L, j + 1, v, i, h, hi => by
    have h' : L[j]? = some v := by simpa using h
    have := cat_get k L j v i h' hi
    simp only [catB, List.flatMap_cons] at this ⊢
    rw [List.getElem?_append_right (by rw [le_len, Nat.mul_succ]; omega), le_len, ← this]
    congr 1
    rw [Nat.mul_succ]; omega
/-- A vector's bytes. -/
def whB (d : List UInt8) (n : Nat) : List UInt8 := leB n 4 ++ leB (cntB d n) 4 ++ d ++ catB 4 (grL d n) ++ catB 2 (smL d n) ++ catB 4 (mkL d n)
theorem wh_len (d : List UInt8) (n : Nat) : (whB d n).length = 8 + d.length + 4 * ((n + 2047) / 2048) + 2 * ((n + 255) / 256) + 4 * ((cntB d n + 511) / 512) := by
  simp only [whB, List.length_append, le_len, cat_len, gr_len, sm_len, mk_len]
/-- The bits behind the last one are noughts. -/
def padB (d : List UInt8) (n : Nat) : Bool := n % 8 == 0 || (d.getD (n / 8) 0).toNat / 2 ^ (n % 8) == 0
end Go.Tk
