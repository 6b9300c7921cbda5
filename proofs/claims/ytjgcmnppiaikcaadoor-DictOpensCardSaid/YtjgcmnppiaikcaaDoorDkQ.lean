/- What is asked of a dictionary that Build made: Get, how far a test holds. Plain. -/
import Derived.Test.YtjgcmnppiaikcaaDoorDkN
import Derived.Test.YtjgcmnppiaikcaaDoorDkK
set_option linter.unusedVariables false
set_option linter.unusedSimpArgs false
namespace Go.Proofs.YtjgcmnppiaikcaaDoor
open Go Go.RowKit Go.Tk
theorem ltB_cons (a b : UInt8) (x y : List UInt8) : ltB (a :: x) (b :: y) = (decide (a < b) || (a == b && ltB x y)) := rfl
theorem ltB_nil (x : List UInt8) : ltB x [] = false := by cases x <;> rfl
theorem ltB_self : ∀ x, ltB x x = false
  | [] => rfl
  | a :: x => by
    rw [ltB_cons, ltB_self x]
    simp [UInt8.lt_irrefl]
theorem ltB_trans : ∀ {x y z : List UInt8}, ltB x y = true → ltB y z = true → ltB x z = true
  | x, y, [], _, h2 => by rw [ltB_nil] at h2; cases h2
  | x, [], z :: zs, h1, _ => by rw [ltB_nil] at h1; cases h1
  | [], y :: ys, z :: zs, _, _ => rfl
  | a :: x, b :: y, c :: z, h1, h2 => by
    rw [ltB_cons] at *
    simp only [Bool.or_eq_true, Bool.and_eq_true, decide_eq_true_eq, beq_iff_eq] at *
    rcases h1 with h1 | ⟨rfl, h1⟩
    · rcases h2 with h2 | ⟨rfl, h2⟩
      · exact .inl (UInt8.lt_trans h1 h2)
      · exact .inl h1
    · rcases h2 with h2 | ⟨rfl, h2⟩
      · exact .inl h2
      · exact .inr ⟨rfl, ltB_trans h1 h2⟩
theorem u8_tri {a b : UInt8} (h1 : ¬ a < b) (h2 : ¬ b < a) : a = b := by
  apply UInt8.toNat_inj.1
  rw [UInt8.lt_iff_toNat_lt] at h1 h2
  omega
theorem ltB_tri : ∀ {x y : List UInt8}, ltB x y = false → ltB y x = false → x = y
  | [], [], _, _ => rfl
  | [], b :: y, h, _ => by cases h
  | a :: x, [], _, h => by cases h
  | a :: x, b :: y, h1, h2 => by
    rw [ltB_cons] at h1 h2
    simp only [Bool.or_eq_false_iff, decide_eq_false_iff_not, Bool.and_eq_false_iff, beq_eq_false_iff_ne] at h1 h2
    have e := u8_tri h1.1 h2.1
    subst e
    have k1 : ltB x y = false := by
      rcases h1.2 with h | h
      · exact absurd rfl h
      · exact h
    have k2 : ltB y x = false := by
      rcases h2.2 with h | h
      · exact absurd rfl h
      · exact h
    have e2 : x = y := ltB_tri k1 k2
    rw [e2]
theorem ltB_anti {x y : List UInt8} (h : ltB x y = true) : ltB y x = false := by
  cases hh : ltB y x with
  | false => rfl
  | true => have := ltB_trans h hh; rw [ltB_self] at this; cases this
/-- A text ahead of one that stands ahead of the prefix or begins with it does so too. -/
theorem pre_down : ∀ {p x y : List UInt8}, ltB x y = true → (ltB y p || p.isPrefixOf y) = true → (ltB x p || p.isPrefixOf x) = true
  | [], x, y, _, _ => by simp
  | a :: p, [], y, _, _ => rfl
  | a :: p, b :: x, [], h, _ => by rw [ltB_nil] at h; cases h
  | a :: p, b :: x, c :: y, h, h2 => by
    rw [ltB_cons] at *
    simp only [List.isPrefixOf, Bool.or_eq_true, Bool.and_eq_true, decide_eq_true_eq, beq_iff_eq] at *
    rcases h with h | ⟨rfl, h⟩
    · rcases h2 with (h2 | ⟨rfl, h2⟩) | ⟨rfl, h2⟩
      · exact .inl (.inl (UInt8.lt_trans h h2))
      · exact .inl (.inl h)
      · exact .inl (.inl h)
    · rcases h2 with (h2 | ⟨rfl, h2⟩) | ⟨rfl, h2⟩
      · exact .inl (.inl h2)
      · have := pre_down (p := p) h (by simp [h2])
        simp only [Bool.or_eq_true] at this
        rcases this with h | h
        · exact .inl (.inr ⟨rfl, h⟩)
        · exact .inr ⟨rfl, h⟩
      · have := pre_down (p := p) h (by simp [h2])
        simp only [Bool.or_eq_true] at this
        rcases this with h | h
        · exact .inl (.inr ⟨rfl, h⟩)
        · exact .inr ⟨rfl, h⟩
theorem good_lt {L : List (List UInt8)} (hG : Good L) {i : Nat} : ∀ {j : Nat}, i < j → j < L.length → ltB (L.getD i []) (L.getD j []) = true
  | 0, h, _ => by omega
  | j + 1, h, h2 => by
    have h3 := hG.up (j + 1) (by omega) h2
    rw [Nat.add_sub_cancel] at h3
    by_cases e : i = j
    · rw [e]; exact h3
    · exact ltB_trans (good_lt hG (by omega) (by omega)) h3
theorem tw_cut (tst : List UInt8 → Bool) : ∀ (L : List (List UInt8)), (∀ i j, i < j → j < L.length → tst (L.getD j []) = true → tst (L.getD i []) = true) →
    (L.takeWhile tst).length ≤ L.length ∧ ∀ i, i < L.length → tst (L.getD i []) = decide (i < (L.takeWhile tst).length)
  | [], h => by simp
  | x :: L, h => by
    rw [List.takeWhile_cons]
    cases hx : tst x with
    | true =>
      obtain ⟨h1, h2⟩ := tw_cut tst L (fun i j hij hj ht => by
        have := h (i + 1) (j + 1) (by omega) (by simpa using hj) (by simpa using ht)
        simpa using this)
      refine ⟨by simpa using h1, fun i hi => ?_⟩
      cases i with
      | zero => simpa using hx
      | succ i =>
        have := h2 i (by simpa using hi)
        simpa using this
    | false =>
      refine ⟨by simp, fun i hi => ?_⟩
      cases i with
      | zero => simpa using hx
      | succ i =>
        cases hh : tst ((x :: L).getD (i + 1) []) with
        | false => simp
        | true =>
          have := h 0 (i + 1) (by omega) hi hh
          have e : (x :: L).getD 0 [] = x := rfl
          rw [e, hx] at this; cases this
theorem tw_len {α : Type} (p : α → Bool) : ∀ (M : List α) (k : Nat), k ≤ M.length → (∀ j (h : j < M.length), j < k → p M[j] = true) → (∀ h : k < M.length, p M[k] = false) → (M.takeWhile p).length = k
  | [], k, hk, _, _ => by simp at hk; simp [hk]
  | x :: M, 0, hk, _, h2 => by
    have := h2 (by simp)
    have e : p x = false := this
    simp [List.takeWhile_cons, e]
  | x :: M, k + 1, hk, h1, h2 => by
    have e : p x = true := h1 0 (by simp) (by omega)
    have ih := tw_len p M k (by simpa using hk) (fun j h hj => by have := h1 (j + 1) (by simpa using h) (by omega); simpa using this) (fun h => by have := h2 (by simpa using h); simpa using this)
    simp [List.takeWhile_cons, e, ih]
/-- How far a test holds, of a dictionary that Build made. -/
theorem ahead_built {L : List (List UInt8)} (hG : Good L) {eb : List UInt8} (he : nums eb = areaN L L.length) (tst : List UInt8 → Bool) (m : Nat) (hm : m ≤ L.length) (ht : ∀ i, i < L.length → tst (L.getD i []) = decide (i < m)) :
    aheadF (packD L) (widthD L).toNat eb L.length tst = m := by
  have hT : ∀ k, 0 ≤ k → k < (L.length + 15) / 16 → tstB (packD L) (widthD L).toNat eb tst k = decide ((m + 15) / 16 ≤ k) := by
    intro k _ hk
    have h1 := num_built hG k (by omega)
    have h2 := ent_built hG he (i := 16 * k) (by omega) (last := []) (fun h => by omega)
    rw [decide_eq_true (show 16 * k % 16 = 0 by omega)] at h2
    unfold tstB
    rw [h1, h2]
    simp only [ne_eq, not_true_eq_false, if_false]
    rw [ht (16 * k) (by omega)]
    by_cases h3 : 16 * k < m
    · rw [decide_eq_true h3, decide_eq_false (by omega)]; rfl
    · rw [decide_eq_false h3, decide_eq_true (by omega)]; rfl
  have hK : bsF (tstB (packD L) (widthD L).toNat eb tst) ((L.length + 15) / 16) 0 ((L.length + 15) / 16) = (m + 15) / 16 := bsF_turn _ _ _ 0 _ (by omega) (Nat.zero_le _) (by omega) hT
  unfold aheadF
  rw [hK]
  simp only
  split
  · omega
  · rename_i h0
    rw [blkN_built hG he _ (by omega)]
    obtain ⟨q, hq⟩ : ∃ q, (m + 15) / 16 - 1 = q := ⟨_, rfl⟩
    rw [hq]
    rw [tw_len _ _ (m - 16 * q) (by simp only [List.length_map, List.length_range]; omega) (fun j h hj => ?_) (fun h => ?_)]
    · omega
    · simp only [List.length_map, List.length_range] at h
      simp only [List.getElem_map, List.getElem_range]
      rw [ht _ (by omega), decide_eq_true (by omega)]
    · simp only [List.length_map, List.length_range] at h
      simp only [List.getElem_map, List.getElem_range]
      rw [ht _ (by omega), decide_eq_false (by omega)]
theorem get_built {L : List (List UInt8)} (hG : Good L) {eb : List UInt8} (he : nums eb = areaN L L.length) (i : Int) : getF (packD L) (widthD L).toNat eb L.length i = if 0 ≤ i ∧ i < L.length then (L.getD i.toNat [], true) else ([], false) := by
  unfold getF
  by_cases h : i < 0 ∨ (L.length : Int) ≤ i
  · rw [if_pos h, if_neg (by omega)]
  · rw [if_neg h, if_pos (by omega)]
    have hq : 16 * (i.toNat / 16) < L.length := by omega
    rw [blkN_built hG he _ hq]
    obtain ⟨q, hqq⟩ : ∃ q, i.toNat / 16 = q := ⟨_, rfl⟩
    rw [hqq] at hq ⊢
    have hl : ((List.range (min 16 (L.length - 16 * q))).map fun j => (16 * q + j, L.getD (16 * q + j) [])).length = min 16 (L.length - 16 * q) := by simp
    rw [find_at (base := 16 * q) (fun j h => by simp) ⟨i.toNat - 16 * q, by rw [hl]; omega⟩ (by simp; omega)]
    simp only [List.getElem_map, List.getElem_range]
    rw [show 16 * q + (i.toNat - 16 * q) = i.toNat by omega]
end Go.Proofs.YtjgcmnppiaikcaaDoor
