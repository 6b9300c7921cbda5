/- Levels that are right are those of the quads that they tell. Plain. -/
import Derived.Test.YtgajpekolamjbaaTpF
set_option linter.unusedVariables false
set_option linter.unusedSimpArgs false
namespace Go.Tk
open Go Go.RowKit
/-- Four levels that are right: how many entries, their numbers, which are the last of their parents. -/
structure LvT (n : Nat → Nat) (M : Nat → Nat → Int) (B : Nat → Nat → Bool) : Prop where
  cnt : ∀ k, 0 < k → k < 4 → cF (B k) (n k) = n (k - 1)
  last : ∀ k, 0 < k → k < 4 → 0 < n k → B k (n k - 1) = true
  le : n 3 ≤ 1048576
  ok : ∀ k i, k < 4 → i < n k → okN k (M k i) = true
  up : ∀ k i, k < 4 → i + 1 < n k → (k = 0 ∨ B k i = false) → M k i < M k (i + 1)
/-- The entry of the level 3 - m above a quad. -/
def anT (B : Nat → Nat → Bool) : Nat → Nat → Nat
  | 0, t => t
  | m + 1, t => cF (B (3 - m)) (anT B m t)
/-- Does it move behind a quad? -/
def mvT (B : Nat → Nat → Bool) : Nat → Nat → Bool
  | 0, _ => true
  | m + 1, t => mvT B m t && B (3 - m) (anT B m t)
def qdT (M : Nat → Nat → Int) (B : Nat → Nat → Bool) (t : Nat) : Qd := ⟨M 0 (anT B 3 t), M 1 (anT B 2 t), M 2 (anT B 1 t), M 3 (anT B 0 t)⟩
def lsT (n : Nat → Nat) (M : Nat → Nat → Int) (B : Nat → Nat → Bool) : List Qd := (List.range (n 3)).map (qdT M B)
theorem qdT_at (M : Nat → Nat → Int) (B : Nat → Nat → Bool) (t : Nat) {k : Nat} (hk : k < 4) : (qdT M B t).at k = M k (anT B (3 - k) t) := by
  rcases (by omega : k = 0 ∨ k = 1 ∨ k = 2 ∨ k = 3) with rfl | rfl | rfl | rfl <;> rfl
theorem cF_mono (f : Nat → Bool) {i j : Nat} (h : i ≤ j) : cF f i ≤ cF f j := by
  induction j with
  | zero => obtain rfl : i = 0 := by omega
            exact Nat.le_refl _
  | succ j ih =>
    by_cases e : i = j + 1
    · subst e; exact Nat.le_refl _
    · have := ih (by omega); simp only [cF]; omega
section
variable {n : Nat → Nat} {M : Nat → Nat → Int} {B : Nat → Nat → Bool}
theorem an_zero (B : Nat → Nat → Bool) : ∀ m, anT B m 0 = 0
  | 0 => rfl
  | m + 1 => by simp only [anT]; rw [an_zero B m]; rfl
theorem an_succ (B : Nat → Nat → Bool) (t : Nat) : ∀ m, anT B m (t + 1) = anT B m t + (if mvT B m t = true then 1 else 0)
  | 0 => rfl
  | m + 1 => by
    have h := an_succ B t m
    have e : mvT B (m + 1) t = (mvT B m t && B (3 - m) (anT B m t)) := rfl
    show cF (B (3 - m)) (anT B m (t + 1)) = cF (B (3 - m)) (anT B m t) + (if mvT B (m + 1) t = true then 1 else 0)
    rw [h]
    by_cases hm : mvT B m t = true
    · rw [if_pos hm]
      rw [hm, Bool.true_and] at e
      rw [e]
      rfl
    · rw [if_neg hm]
      have hm2 : mvT B m t = false := by simpa using hm
      rw [hm2, Bool.false_and] at e
      rw [e]
      simp
theorem ls_len : (lsT n M B).length = n 3 := by simp [lsT]
theorem ls_at {t : Nat} (h : t < n 3) : qAt (lsT n M B) t = qdT M B t := by simp [qAt, lsT, h]
theorem ls_get {t : Nat} (h : t < n 3) : (lsT n M B).getD t default = qdT M B t := ls_at h
/-- The last of a level, and the last quad. -/
theorem an_end (T : LvT n M B) (h0 : 0 < n 3) : ∀ m, m < 4 → anT B m (n 3 - 1) + 1 = n (3 - m)
  | 0, _ => by show n 3 - 1 + 1 = n 3; omega
  | m + 1, hm => by
    have ih := an_end T h0 m (by omega)
    have hc := T.cnt (3 - m) (by omega) (by omega)
    have hl := T.last (3 - m) (by omega) (by omega) (by omega)
    rw [← ih, Nat.add_sub_cancel] at hl
    rw [← ih] at hc
    simp only [cF] at hc
    rw [hl] at hc
    simp only [anT]
    simp only [if_true] at hc
    rw [hc, show 3 - m - 1 = 3 - (m + 1) by omega]
theorem an_mono (B : Nat → Nat → Bool) {s t : Nat} (h : s ≤ t) : ∀ m, anT B m s ≤ anT B m t
  | 0 => h
  | m + 1 => cF_mono _ (an_mono B h m)
theorem an_lt (T : LvT n M B) {t : Nat} (h : t < n 3) {m : Nat} (hm : m < 4) : anT B m t < n (3 - m) := by
  have h1 := an_end T (by omega) m hm
  have h2 := an_mono B (show t ≤ n 3 - 1 by omega) m
  omega
theorem mv_down (B : Nat → Nat → Bool) (t m : Nat) (h : mvT B m t = false) : mvT B (m + 1) t = false := by simp [mvT, h]
/-- The first level that moves. -/
def fmT (B : Nat → Nat → Bool) (t : Nat) : Nat := if mvT B 3 t = true then 0 else if mvT B 2 t = true then 1 else if mvT B 1 t = true then 2 else 3
theorem fm_le (B : Nat → Nat → Bool) (t : Nat) {k : Nat} (hk : k < 4) : fmT B t ≤ k ↔ mvT B (3 - k) t = true := by
  unfold fmT
  have m1 := mv_down B t 1
  have m2 := mv_down B t 2
  rcases (by omega : k = 0 ∨ k = 1 ∨ k = 2 ∨ k = 3) with rfl | rfl | rfl | rfl
  · show _ ↔ mvT B 3 t = true
    by_cases h3 : mvT B 3 t = true
    · simp [h3]
    · rw [if_neg h3]; simp only [h3]; constructor
      · intro h; split at h <;> (try split at h) <;> omega
      · intro h; cases h
  · show _ ↔ mvT B 2 t = true
    by_cases h3 : mvT B 3 t = true
    · rw [if_pos h3]
      refine ⟨fun _ => ?_, fun _ => by omega⟩
      cases h2 : mvT B 2 t with
      | true => rfl
      | false => rw [m2 h2] at h3; cases h3
    · rw [if_neg h3]
      by_cases h2 : mvT B 2 t = true
      · simp [h2]
      · rw [if_neg h2]; simp only [h2]; constructor
        · intro h; split at h <;> omega
        · intro h; cases h
  · show _ ↔ mvT B 1 t = true
    have e2 : mvT B 2 t = true → mvT B 1 t = true := fun h2 => by
      cases h1 : mvT B 1 t with
      | true => rfl
      | false => rw [m1 h1] at h2; cases h2
    by_cases h3 : mvT B 3 t = true
    · rw [if_pos h3]
      refine ⟨fun _ => ?_, fun _ => by omega⟩
      apply e2
      cases h2 : mvT B 2 t with
      | true => rfl
      | false => rw [m2 h2] at h3; cases h3
    · rw [if_neg h3]
      by_cases h2 : mvT B 2 t = true
      · rw [if_pos h2]; exact ⟨fun _ => e2 h2, fun _ => by omega⟩
      · rw [if_neg h2]
        by_cases h1 : mvT B 1 t = true
        · simp [h1]
        · rw [if_neg h1]; simp only [h1]; constructor
          · intro h; omega
          · intro h; cases h
  · refine ⟨fun _ => rfl, fun _ => ?_⟩
    split
    · omega
    · split
      · omega
      · split <;> omega
theorem fm_lt (B : Nat → Nat → Bool) (t : Nat) : fmT B t < 4 := by unfold fmT; split; omega; split; omega; split <;> omega
/-- Two quads, one behind the other. -/
theorem qd_step (T : LvT n M B) {t : Nat} (h : t + 1 < n 3) : (∀ i, i < fmT B t → (qdT M B t).at i = (qdT M B (t + 1)).at i) ∧ (qdT M B t).at (fmT B t) < (qdT M B (t + 1)).at (fmT B t) := by
  have hf := fm_lt B t
  refine ⟨fun i hi => ?_, ?_⟩
  · rw [qdT_at _ _ _ (by omega), qdT_at _ _ _ (by omega), an_succ]
    have : ¬ mvT B (3 - i) t = true := fun hm => by have := (fm_le B t (k := i) (by omega)).2 hm; omega
    rw [if_neg this, Nat.add_zero]
  · obtain ⟨f, hfe⟩ : ∃ f, f = fmT B t := ⟨_, rfl⟩
    rw [← hfe] at hf ⊢
    have hm : mvT B (3 - f) t = true := (fm_le B t hf).1 (by omega)
    have h1 : anT B (3 - f) (t + 1) < n (3 - (3 - f)) := an_lt T h (by omega)
    rw [an_succ, if_pos hm, show 3 - (3 - f) = f by omega] at h1
    rw [qdT_at _ _ _ hf, qdT_at _ _ _ hf, an_succ, if_pos hm]
    refine T.up f _ hf h1 ?_
    rcases Nat.eq_zero_or_pos f with h0 | h0
    · exact .inl h0
    · right
      have hn : ¬ mvT B (3 - f + 1) t = true := fun hm2 => by
        have := (fm_le B t (k := f - 1) (by omega)).2 (by rw [show 3 - (f - 1) = 3 - f + 1 by omega]; exact hm2)
        omega
      simp only [mvT] at hn
      rw [hm, Bool.true_and, show 3 - (3 - f) = f by omega] at hn
      simpa using hn
theorem ls_right (T : LvT n M B) : Right (lsT n M B) := by
  apply chk_right
  unfold chkT
  rw [ls_len, if_neg (by have := T.le; omega), if_neg, if_pos]
  · refine riseQ_yes fun i h0 hi => ?_
    rw [ls_len] at hi
    obtain ⟨t, rfl⟩ : ∃ t, i = t + 1 := ⟨i - 1, by omega⟩
    rw [Nat.add_sub_cancel, ls_get (by omega), ls_get hi]
    obtain ⟨h1, h2⟩ := qd_step T hi
    exact cmp_lt (fm_lt B t) h1 h2
  · rw [bad_no]
    · simp
    · intro i hi
      rw [ls_len] at hi
      rw [ls_get hi]
      have key : ∀ k, k < 4 → okN k ((qdT M B i).at k) = true := fun k hk => by
        rw [qdT_at _ _ _ hk]
        refine T.ok k _ hk ?_
        have := an_lt T hi (m := 3 - k) (by omega)
        rwa [show 3 - (3 - k) = k by omega] at this
      unfold okQ
      have k0 := key 0 (by omega)
      have k1 := key 1 (by omega)
      have k2 := key 2 (by omega)
      have k3 := key 3 (by omega)
      simp only [Bool.and_eq_true]
      exact ⟨⟨⟨k0, k1⟩, k2⟩, k3⟩
theorem ls_fK (T : LvT n M B) {t : Nat} (h : t + 1 < n 3) : fK (lsT n M B) (t + 1) = fmT B t := by
  rw [fK_succ, ls_at (by omega), ls_at h]
  obtain ⟨h1, h2⟩ := qd_step T h
  exact fk_is (fm_lt B t) h1 (by omega)
/-- The numbers of a level, behind so many quads. -/
theorem ls_N (T : LvT n M B) {k : Nat} (hk : k < 4) : ∀ t, t < n 3 → levN (lsT n M B) k (t + 1) = (List.range (anT B (3 - k) t + 1)).map (M k)
  | 0, h => by
    simp only [levN]
    rw [fK_zero, if_pos (by omega), an_zero, ls_get h, qdT_at _ _ _ hk, an_zero]
    simp [List.range, List.range.loop]
  | t + 1, h => by
    have ih := ls_N T hk t (by omega)
    have e : levN (lsT n M B) k (t + 1 + 1) = if fK (lsT n M B) (t + 1) ≤ k then levN (lsT n M B) k (t + 1) ++ [((lsT n M B).getD (t + 1) default).at k] else levN (lsT n M B) k (t + 1) := rfl
    rw [e, ls_fK T h, ih, an_succ]
    by_cases hm : mvT B (3 - k) t = true
    · rw [if_pos ((fm_le B t hk).2 hm), if_pos hm, List.range_succ (n := anT B (3 - k) t + 1), List.map_append, ls_get h, qdT_at _ _ _ hk, an_succ, if_pos hm]
      rfl
    · rw [if_neg (fun hh => hm ((fm_le B t hk).1 hh)), if_neg hm, Nat.add_zero]
theorem ls_levN (T : LvT n M B) {k : Nat} (hk : k < 4) : levN (lsT n M B) k (lsT n M B).length = (List.range (n k)).map (M k) := by
  rw [ls_len]
  rcases Nat.eq_zero_or_pos (n 3) with h0 | h0
  · rw [h0]
    have hz : ∀ m, m < 4 → n (3 - m) = 0 := by
      intro m
      induction m with
      | zero => intro _; exact h0
      | succ m ih =>
        intro hm
        have h1 := T.cnt (3 - m) (by omega) (by omega)
        rw [ih (by omega), show 3 - m - 1 = 3 - (m + 1) by omega] at h1
        exact h1.symm
    have := hz (3 - k) (by omega)
    rw [show 3 - (3 - k) = k by omega] at this
    rw [this]; rfl
  · obtain ⟨t, ht⟩ : ∃ t, n 3 = t + 1 := ⟨n 3 - 1, by omega⟩
    have h1 := an_end T h0 (3 - k) (by omega)
    rw [show 3 - (3 - k) = k by omega, show n 3 - 1 = t by omega] at h1
    rw [ht, ls_N T hk t (by omega), h1]
theorem clB_snoc (l : List Bool) (x : Bool) : clB (l ++ [x]) = l ++ [true] := by simp [clB]
/-- The bits of a level, behind so many quads. -/
theorem ls_B (T : LvT n M B) {k : Nat} (h0 : 0 < k) (hk : k < 4) : ∀ t, t < n 3 → levB (lsT n M B) k (t + 1) = (List.range (anT B (3 - k) t)).map (B k) ++ [false]
  | 0, h => by
    simp only [levB]
    rw [fK_zero, if_pos h0, an_zero]
    simp [clB]
  | t + 1, h => by
    have ih := ls_B T h0 hk t (by omega)
    have e : levB (lsT n M B) k (t + 1 + 1) = if fK (lsT n M B) (t + 1) < k then clB (levB (lsT n M B) k (t + 1)) ++ [false] else if fK (lsT n M B) (t + 1) = k then levB (lsT n M B) k (t + 1) ++ [false] else levB (lsT n M B) k (t + 1) := rfl
    have hup : mvT B (3 - (k - 1)) t = (mvT B (3 - k) t && B k (anT B (3 - k) t)) := by
      rw [show 3 - (k - 1) = 3 - k + 1 by omega]
      simp only [mvT]
      rw [show 3 - (3 - k) = k by omega]
    have f1 := fm_le B t hk
    have f2 := fm_le B t (k := k - 1) (by omega)
    rw [e, ls_fK T h, ih, an_succ, clB_snoc]
    by_cases hm : mvT B (3 - k) t = true
    · rw [if_pos hm, List.range_succ, List.map_append]
      by_cases hb : B k (anT B (3 - k) t) = true
      · have : fmT B t ≤ k - 1 := f2.2 (by rw [hup, hm, hb]; rfl)
        rw [if_pos (by omega)]
        simp [hb]
      · have h3 : ¬ fmT B t ≤ k - 1 := fun hh => by
          have := f2.1 hh
          rw [hup, hm, Bool.true_and] at this
          exact hb this
        have h4 := f1.2 hm
        rw [if_neg (by omega), if_pos (by omega)]
        simp at hb
        simp [hb]
    · have h3 : ¬ fmT B t ≤ k := fun hh => hm (f1.1 hh)
      rw [if_neg hm, Nat.add_zero, if_neg (by omega), if_neg (by omega)]
theorem ls_lastB (T : LvT n M B) {k : Nat} (h0 : 0 < k) (hk : k < 4) : lastB (lsT n M B) k = (List.range (n k)).map (B k) := by
  unfold lastB
  rw [ls_len]
  rcases Nat.eq_zero_or_pos (n 3) with hz | hp
  · have h1 := ls_levN T hk
    rw [ls_len, hz] at h1
    have h2 : n k = 0 := by
      have := congrArg List.length h1
      simp [levN] at this
      omega
    rw [hz, h2]; rfl
  · obtain ⟨t, ht⟩ : ∃ t, n 3 = t + 1 := ⟨n 3 - 1, by omega⟩
    have h1 := an_end T hp (3 - k) (by omega)
    rw [show 3 - (3 - k) = k by omega, show n 3 - 1 = t by omega] at h1
    have h2 := T.last k h0 hk (by omega)
    rw [ht, ls_B T h0 hk t (by omega), clB_snoc, ← h1, List.range_succ, List.map_append]
    rw [← h1, Nat.add_sub_cancel] at h2
    simp [h2]
end
end Go.Tk
