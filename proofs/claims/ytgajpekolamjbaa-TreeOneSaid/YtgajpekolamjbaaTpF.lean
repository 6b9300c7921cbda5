/- TpB TwA TpD TpE TpF, laid as one. -/
import Derived.Test.YtgajpekolamjbaaRkTo
import Derived.Test.YtgajpekolamjbaaTvM
import Derived.Test.YtgajpekolamjbaaTvH
import Derived.Test.YtgajpekolamjbaaPkL
import Derived.Test.YtgajpekolamjbaaBitsInv
import Derived.Test.YtgajpekolamjbaaRkBd
set_option linter.unusedVariables false
set_option linter.unusedSimpArgs false
/- What a built tree answers: numbers, children, starts, the search, Get. Plain. -/
namespace Go.Tk
open Go Go.RowKit
theorem fk_sym_lt {p q : Qd} (h : cmpQ p q < 0) : p.at (fk p q) < q.at (fk p q) := by
  unfold cmpQ at h
  unfold fk
  by_cases h1 : p.a ≠ q.a
  · rw [if_pos h1]; show p.a < q.a
    by_cases hh : p.a < q.a
    · exact hh
    · rw [if_neg hh, if_pos (by omega)] at h; omega
  rw [if_neg h1]
  simp only [Decidable.not_not] at h1
  rw [if_neg (by omega), if_neg (by omega)] at h
  by_cases h2 : p.b ≠ q.b
  · rw [if_pos h2]; show p.b < q.b
    by_cases hh : p.b < q.b
    · exact hh
    · rw [if_neg hh, if_pos (by omega)] at h; omega
  rw [if_neg h2]
  simp only [Decidable.not_not] at h2
  rw [if_neg (by omega), if_neg (by omega)] at h
  by_cases h3 : p.c ≠ q.c
  · rw [if_pos h3]; show p.c < q.c
    by_cases hh : p.c < q.c
    · exact hh
    · rw [if_neg hh, if_pos (by omega)] at h; omega
  rw [if_neg h3]
  simp only [Decidable.not_not] at h3
  rw [if_neg (by omega), if_neg (by omega)] at h
  by_cases h4 : p.d ≠ q.d
  · rw [if_pos h4]; show p.d < q.d
    by_cases hh : p.d < q.d
    · exact hh
    · rw [if_neg hh, if_pos (by omega)] at h; omega
  simp only [Decidable.not_not] at h4
  rw [if_neg (by omega), if_neg (by omega)] at h
  omega
/-- The order, by the first number that differs. -/
theorem cmp_lt {p q : Qd} {j : Nat} (h4 : j < 4) (he : ∀ i, i < j → p.at i = q.at i) (hn : p.at j < q.at j) : cmpQ p q < 0 := by
  unfold cmpQ
  rcases (by omega : j = 0 ∨ j = 1 ∨ j = 2 ∨ j = 3) with rfl | rfl | rfl | rfl
  · have : p.a < q.a := hn
    rw [if_pos this]; omega
  · have e0 : p.a = q.a := he 0 (by omega)
    have : p.b < q.b := hn
    rw [if_neg (by omega), if_neg (by omega), if_pos this]; omega
  · have e0 : p.a = q.a := he 0 (by omega)
    have e1 : p.b = q.b := he 1 (by omega)
    have : p.c < q.c := hn
    rw [if_neg (by omega), if_neg (by omega), if_neg (by omega), if_neg (by omega), if_pos this]; omega
  · have e0 : p.a = q.a := he 0 (by omega)
    have e1 : p.b = q.b := he 1 (by omega)
    have e2 : p.c = q.c := he 2 (by omega)
    have : p.d < q.d := hn
    rw [if_neg (by omega), if_neg (by omega), if_neg (by omega), if_neg (by omega), if_neg (by omega), if_neg (by omega), if_pos this]; omega
theorem cmp_gt {p q : Qd} {j : Nat} (h4 : j < 4) (he : ∀ i, i < j → p.at i = q.at i) (hn : q.at j < p.at j) : 0 < cmpQ p q := by
  unfold cmpQ
  rcases (by omega : j = 0 ∨ j = 1 ∨ j = 2 ∨ j = 3) with rfl | rfl | rfl | rfl
  · have : q.a < p.a := hn
    rw [if_neg (by omega), if_pos this]; omega
  · have e0 : p.a = q.a := he 0 (by omega)
    have : q.b < p.b := hn
    rw [if_neg (by omega), if_neg (by omega), if_neg (by omega), if_pos this]; omega
  · have e0 : p.a = q.a := he 0 (by omega)
    have e1 : p.b = q.b := he 1 (by omega)
    have : q.c < p.c := hn
    rw [if_neg (by omega), if_neg (by omega), if_neg (by omega), if_neg (by omega), if_neg (by omega), if_pos this]; omega
  · have e0 : p.a = q.a := he 0 (by omega)
    have e1 : p.b = q.b := he 1 (by omega)
    have e2 : p.c = q.c := he 2 (by omega)
    have : q.d < p.d := hn
    rw [if_neg (by omega), if_neg (by omega), if_neg (by omega), if_neg (by omega), if_neg (by omega), if_neg (by omega), if_neg (by omega), if_pos this]; omega
theorem qd_ext {p q : Qd} (h : ∀ j, j < 4 → p.at j = q.at j) : p = q := by
  have h0 : p.a = q.a := h 0 (by omega)
  have h1 : p.b = q.b := h 1 (by omega)
  have h2 : p.c = q.c := h 2 (by omega)
  have h3 : p.d = q.d := h 3 (by omega)
  cases p; cases q; simp_all
/-- The place t of a list. -/
def qAt (L : List Qd) (t : Nat) : Qd := L.getD t default
theorem fK_succ (L : List Qd) (t : Nat) : fK L (t + 1) = fk (qAt L t) (qAt L (t + 1)) := by unfold fK qAt; rw [if_neg (by omega)]; rfl
/-- The numbers ahead of the first that differs stay. -/
theorem fK_keep {L : List Qd} {j t : Nat} (h : j < fK L (t + 1)) : (qAt L t).at j = (qAt L (t + 1)).at j := by rw [fK_succ] at h; exact fk_eq h
theorem Right.up {L : List Qd} (R : Right L) {t : Nat} (h : t + 1 < L.length) : (qAt L t).at (fK L (t + 1)) < (qAt L (t + 1)).at (fK L (t + 1)) := by
  rw [fK_succ]
  have := R.rise (t + 1) (by omega) h
  exact fk_sym_lt this
/-- Some quads, one behind another, whose first numbers are the same; an entry begins at either end. -/
structure Rg (L : List Qd) (k A B : Nat) : Prop where
  ab : A ≤ B
  bn : B ≤ L.length
  ba : bdL L k A
  bb : bdL L k B
  same : ∀ t, A < t → t < B → k ≤ fK L t
theorem Rg.eq {L : List Qd} {k A B : Nat} (h : Rg L k A B) {j : Nat} (hj : j < k) : ∀ {t : Nat}, A ≤ t → t < B → (qAt L t).at j = (qAt L A).at j := by
  intro t
  induction t with
  | zero => intro h1 _; obtain rfl : A = 0 := by omega
            rfl
  | succ t ih =>
    intro h1 h2
    by_cases e : A = t + 1
    · rw [e]
    · rw [← ih (by omega) (by omega)]
      exact (fK_keep (by have := h.same (t + 1) (by omega) h2; omega)).symm
theorem Rg.mono {L : List Qd} (R : Right L) {k A B : Nat} (h : Rg L k A B) {s : Nat} (hs : A ≤ s) : ∀ {t : Nat}, s ≤ t → t < B → (qAt L s).at k ≤ (qAt L t).at k := by
  intro t
  induction t with
  | zero => intro h1 _; obtain rfl : s = 0 := by omega
            exact Int.le_refl _
  | succ t ih =>
    intro h1 h2
    by_cases e : s = t + 1
    · rw [e]; exact Int.le_refl _
    · have h3 := ih (by omega) (by omega)
      have h4 := h.same (t + 1) (by omega) h2
      by_cases h5 : fK L (t + 1) = k
      · have := R.up (t := t) (by have := h.bn; omega)
        rw [h5] at this; omega
      · rw [← fK_keep (show k < fK L (t + 1) by omega)]; exact h3
/-- Behind the begin of an entry the number is greater. -/
theorem Rg.up {L : List Qd} (R : Right L) {k A B : Nat} (h : Rg L k A B) {s D : Nat} (hs : A ≤ s) (hsD : s < D) (hD : fK L D ≤ k) : ∀ {t : Nat}, D ≤ t → t < B → (qAt L s).at k < (qAt L t).at k := by
  intro t h1 h2
  have e1 := h.same D (by omega) (by omega)
  obtain ⟨d, rfl⟩ : ∃ d, D = d + 1 := ⟨D - 1, by omega⟩
  have e2 := R.up (t := d) (by have := h.bn; omega)
  rw [show fK L (d + 1) = k by omega] at e2
  have e3 := h.mono R hs (show s ≤ d by omega) (by omega)
  have e4 := h.mono R (show A ≤ d + 1 by omega) h1 h2
  omega
/-- Where the number of a level is not below v for the first time. -/
theorem Rg.cut {L : List Qd} (R : Right L) {k A B : Nat} (h : Rg L k A B) (v : Int) : ∃ C, A ≤ C ∧ C ≤ B ∧ bdL L k C ∧ (∀ t, A ≤ t → t < C → (qAt L t).at k < v) ∧ ∀ t, C ≤ t → t < B → v ≤ (qAt L t).at k := by
  have key : ∀ n, A + n ≤ B → (∀ t, A ≤ t → t < A + n → (qAt L t).at k < v) → bdL L k (A + n) ∨ (A + n < B ∧ (qAt L (A + n)).at k < v) → ∃ C, A ≤ C ∧ C ≤ B ∧ bdL L k C ∧ (∀ t, A ≤ t → t < C → (qAt L t).at k < v) ∧ ∀ t, C ≤ t → t < B → v ≤ (qAt L t).at k := by
    intro n hn hlt hbd
    obtain ⟨m, hm⟩ : ∃ m, m = B - (A + n) := ⟨_, rfl⟩
    induction m generalizing n with
    | zero => exact ⟨B, h.ab, Nat.le_refl _, h.bb, fun t h1 h2 => hlt t h1 (by omega), fun t h1 h2 => by omega⟩
    | succ m ih =>
      by_cases hv : v ≤ (qAt L (A + n)).at k
      · refine ⟨A + n, by omega, by omega, hbd.resolve_right (fun hh => by have := hh.2; omega), hlt, fun t h1 h2 => Int.le_trans hv (h.mono R (by omega) h1 h2)⟩
      · refine ih (n + 1) (by omega) (fun t h1 h2 => ?_) ?_ (by omega)
        · by_cases e : t = A + n
          · rw [e]; omega
          · exact hlt t h1 (by omega)
        · by_cases e : A + (n + 1) = B
          · left; rw [e]; exact h.bb
          · by_cases hw : (qAt L (A + (n + 1))).at k < v
            · exact .inr ⟨by omega, hw⟩
            · left; right
              refine Decidable.byContradiction fun hf => ?_
              have := fK_keep (L := L) (t := A + n) (j := k) (by rw [show A + n + 1 = A + (n + 1) by omega]; omega)
              rw [show A + n + 1 = A + (n + 1) by omega] at this
              rw [← this] at hw; omega
  exact key 0 (by have := h.ab; omega) (fun t h1 h2 => by omega) (.inl (by rw [Nat.add_zero]; exact h.ba))
/-- Where the next entry begins. -/
theorem Rg.next {L : List Qd} {k A B : Nat} (h : Rg L k A B) {C : Nat} (hA : A ≤ C) (hC : C < B) : ∃ D, C < D ∧ D ≤ B ∧ bdL L k D ∧ ∀ t, C < t → t < D → ¬ fK L t ≤ k := by
  have key : ∀ m n, m = B - (C + 1 + n) → C + 1 + n ≤ B → (∀ t, C < t → t < C + 1 + n → ¬ fK L t ≤ k) → ∃ D, C < D ∧ D ≤ B ∧ bdL L k D ∧ ∀ t, C < t → t < D → ¬ fK L t ≤ k := by
    intro m
    induction m with
    | zero => intro n hm hn ht; exact ⟨B, hC, Nat.le_refl _, h.bb, fun t h1 h2 => ht t h1 (by omega)⟩
    | succ m ih =>
      intro n hm hn ht
      by_cases hf : fK L (C + 1 + n) ≤ k
      · exact ⟨C + 1 + n, by omega, hn, .inr hf, ht⟩
      · exact ih (n + 1) (by omega) (by omega) (fun t h1 h2 => by
          by_cases e : t = C + 1 + n
          · rw [e]; exact hf
          · exact ht t h1 (by omega))
  exact key _ 0 rfl (by omega) (fun t h1 h2 => by omega)
theorem Rg.below {L : List Qd} {k A B : Nat} (h : Rg L k A B) {C D : Nat} (hA : A ≤ C) (hC : C < D) (hD : D ≤ B) (hbC : bdL L k C) (hbD : bdL L k D) (hn : ∀ t, C < t → t < D → ¬ fK L t ≤ k) : Rg L (k + 1) C D :=
  ⟨Nat.le_of_lt hC, Nat.le_trans hD h.bn, bdL_up hbC, bdL_up hbD, fun t h1 h2 => by have := hn t h1 h2; omega⟩
theorem Rg.all (L : List Qd) : Rg L 0 0 L.length := ⟨Nat.zero_le _, Nat.le_refl _, bdL_zero L 0, bdL_end L 0, fun t _ _ => Nat.zero_le _⟩
theorem Rg.begin {L : List Qd} {k A B : Nat} (h : Rg L k A B) {C : Nat} (hC : C < B) (hb : bdL L k C) : fK L C ≤ k := hb.resolve_left (by have := h.bn; omega)
end Go.Tk
namespace Go.Proofs.Ytgajpekolamjbaa
open Go.RowKit Go.Tk
/-- Bytes that tell a tree of these quads. -/
structure Blt (b : List UInt8) (L : List Qd) : Prop where
  right : Right L
  n : ∀ k, k < 4 → tN b k = posL L k L.length
  m : ∀ k i, k < 4 → i < posL L k L.length → ((tM b k i : Nat) : Int) = (levN L k L.length).getD i 0
  v : ∀ k, 0 < k → k < 4 → tV b k = true
  rk : ∀ k i : Nat, 0 < k → k < 4 → rkT b k (i : Nat) = cntB (packB (lastB L k)) (min i (posL L k L.length))
  sl : ∀ k (i : Int), 0 < k → k < 4 → slT b k i = selW (packB (lastB L k)) (posL L k L.length) i
section
variable {b : List UInt8} {L : List Qd}
theorem Blt.num (B : Blt b L) {k t : Nat} (hk : k < 4) (ht : t < L.length) : ((tM b k (posL L k (t + 1) - 1) : Nat) : Int) = (qAt L t).at k := by
  have h1 := levN_get L k L.length t ht
  have h2 := posL_mono L k (show t + 1 ≤ L.length by omega)
  have h3 := posL_pos L k (show 0 < t + 1 by omega)
  rw [B.m k _ hk (by omega), List.getD_eq_getElem?_getD, h1]; rfl
theorem Blt.numB (B : Blt b L) {k t : Nat} (hk : k < 4) (ht : t < L.length) (hb : fK L t ≤ k) : ((tM b k (posL L k t) : Nat) : Int) = (qAt L t).at k := by
  have := B.num hk ht
  rw [posL_yes hb, Nat.add_sub_cancel] at this
  exact this
theorem Blt.slN (B : Blt b L) {k t : Nat} (hk : k < 3) (h0 : 0 < t) (ht : t ≤ L.length) (hb : bdL L k t) : Go.Proofs.Ytgajpekolamjbaa.slN b (k + 1) (posL L k t - 1) = posL L (k + 1) t := by
  have hp := posL_pos L (k + 1) h0
  have hm := posL_mono L (k + 1) ht
  have hlen := last_len L (k + 1)
  have hle := posL_le L (k + 1) L.length
  have hr := last_rank L k (t := t - 1) (by omega)
  rw [show t - 1 + 1 = t by omega] at hr
  have hs := selW_at (d := packB (lastB L (k + 1))) (N := posL L (k + 1) L.length) (by rw [pack_len, hlen]) (by have := B.right.len; omega) (posL L (k + 1) t - 1) (by omega) (by rw [pack_bt]; exact last_set L k h0 ht hb)
  rw [hr] at hs
  unfold Go.Proofs.Ytgajpekolamjbaa.slN
  rw [B.sl (k + 1) _ (by omega) (by omega), hs]
  omega
theorem Blt.chl (B : Blt b L) {k t : Nat} (hk : k < 3) (ht : t ≤ L.length) (hb : bdL L k t) : chL b k (posL L k t) = posL L (k + 1) t := by
  unfold chL
  rw [B.v (k + 1) (by omega) (by omega)]
  simp only [Bool.true_eq_false, if_false]
  by_cases h0 : 0 < t
  · rw [if_pos (posL_pos L k h0)]
    exact B.slN hk h0 ht hb
  · obtain rfl : t = 0 := by omega
    rfl
theorem Blt.chh (B : Blt b L) {k t u : Nat} (hk : k < 3) (htu : t < u) (hu : u ≤ L.length) (hf : fK L t ≤ k) (hbu : bdL L k u) (hn : ∀ i, t < i → i < u → ¬ fK L i ≤ k) : chH b k (posL L k t) = posL L (k + 1) u := by
  unfold chH
  rw [B.v (k + 1) (by omega) (by omega)]
  simp only [Bool.true_eq_false, if_false]
  rw [B.chl hk (by omega) (.inr hf)]
  have h1 := B.slN hk (show 0 < u by omega) hu hbu
  rw [posL_flat L k (show t ≤ u by omega) hn htu, posL_yes hf, Nat.add_sub_cancel] at h1
  rw [h1]
  have := posL_mono L (k + 1) (show t ≤ u by omega)
  omega
theorem Blt.st (B : Blt b L) : ∀ (m : Nat) {t : Nat}, m ≤ 3 → t ≤ L.length → bdL L (3 - m) t → stR b m (posL L (3 - m) t) = t
  | 0, t, _, ht, _ => by
    simp only [stR]
    rw [Nat.sub_zero, B.n 3 (by omega), posL_three B.right t ht, posL_three B.right _ (Nat.le_refl _)]
    omega
  | m + 1, t, hm, ht, hb => by
    simp only [stR]
    rw [show 3 - (m + 1) = 2 - m by omega] at hb ⊢
    rw [B.n _ (by omega), B.n 3 (by omega), posL_three B.right _ (Nat.le_refl _)]
    by_cases e : t = L.length
    · subst e; rw [if_pos (Nat.le_refl _)]
    · have hf := hb.resolve_left e
      have h1 := posL_yes (L := L) hf
      have h2 := posL_mono L (2 - m) (show t + 1 ≤ L.length by omega)
      rw [if_neg (by omega), B.chl (by omega) ht hb, show 2 - m + 1 = 3 - m by omega]
      exact Blt.st B m (by omega) ht (by have := bdL_up hb; rw [show 2 - m + 1 = 3 - m by omega] at this; exact this)
theorem Blt.stk (B : Blt b L) {k t : Nat} (hk : k < 4) (ht : t ≤ L.length) (hb : bdL L k t) : stR b (3 - k) (posL L k t) = t := by
  have := B.st (3 - k) (t := t) (by omega) ht (by rw [show 3 - (3 - k) = k by omega]; exact hb)
  rw [show 3 - (3 - k) = k by omega] at this
  exact this
/-- The search among the entries of a level. -/
theorem Blt.sr (B : Blt b L) {k A C D : Nat} (hk : k < 4) (hAC : A ≤ C) (hCD : C ≤ D) (hD : D ≤ L.length) (v : Int) (h1 : ∀ t, A ≤ t → t < C → (qAt L t).at k < v) (h2 : ∀ t, C ≤ t → t < D → v ≤ (qAt L t).at k) :
    srT b k (posL L k A) (posL L k D) v = posL L k C := by
  have m1 := posL_mono L k hAC
  have m2 := posL_mono L k hCD
  unfold srT
  rw [bsF_turn _ (posL L k C - posL L k A) (posL L k D - posL L k A) 0 (posL L k D - posL L k A) (by omega) (Nat.zero_le _) (by omega) ?_]
  · omega
  · intro i _ hi
    obtain ⟨t, ht, hf, he⟩ := posL_ex L k D (posL L k A + i) (by omega)
    rw [← he]
    have hnum := B.numB hk (show t < L.length by omega) hf
    have hA : A ≤ t := Decidable.byContradiction fun hn => by
      have := posL_mono L k (show t + 1 ≤ A by omega)
      rw [posL_yes hf] at this; omega
    by_cases hC : t < C
    · have := h1 t hA hC
      have h3 := posL_mono L k (show t + 1 ≤ C by omega)
      rw [posL_yes hf] at h3
      rw [decide_eq_false (by omega), decide_eq_false (by omega)]
    · have := h2 t (by omega) ht
      have h3 := posL_mono L k (show C ≤ t by omega)
      rw [decide_eq_true (by omega), decide_eq_true (by omega)]
/-- Get. -/
theorem Blt.get (B : Blt b L) {t : Nat} (ht : t < L.length) : ∃ q, getT b (t : Nat) = some q ∧ ∀ j, j < 4 → ((q j : Nat) : Int) = (qAt L t).at j := by
  have hN := B.n 3 (by omega)
  rw [posL_three B.right _ (Nat.le_refl _)] at hN
  have step : ∀ k q, k < 4 → (0 < k → True) → gR b (k + 1) (posL L k (t + 1) - 1) q = gR b k (if 0 < k then posL L (k - 1) (t + 1) - 1 else posL L k (t + 1) - 1) (upF q k (tM b k (posL L k (t + 1) - 1))) := by
    intro k q hk _
    have h2 := posL_mono L k (show t + 1 ≤ L.length by omega)
    have h3 := posL_pos L k (show 0 < t + 1 by omega)
    simp only [gR]
    rw [if_neg]
    · by_cases h0 : 0 < k
      · rw [if_pos h0, if_pos h0]
        obtain ⟨j, rfl⟩ : ∃ j, k = j + 1 := ⟨k - 1, by omega⟩
        rw [B.rk (j + 1) _ (by omega) hk, Nat.min_eq_left (by omega), last_rank L j ht, Nat.add_sub_cancel]
      · rw [if_neg h0, if_neg h0]
    · rintro (h | ⟨h0, h⟩)
      · rw [B.n k hk] at h; omega
      · rw [B.v k h0 hk] at h; cases h
  unfold getT
  rw [if_neg (by rw [hN]; omega), Int.toNat_natCast]
  have e3 : t = posL L 3 (t + 1) - 1 := by rw [posL_three B.right _ (by omega)]; omega
  have hg : gR b 4 t idZ = some (upF (upF (upF (upF idZ 3 (tM b 3 (posL L 3 (t + 1) - 1))) 2 (tM b 2 (posL L 2 (t + 1) - 1))) 1 (tM b 1 (posL L 1 (t + 1) - 1))) 0 (tM b 0 (posL L 0 (t + 1) - 1))) := by
    conv => lhs; rw [e3]
    rw [step 3 _ (by omega) (fun _ => trivial)]
    simp only [show (0 : Nat) < 3 by omega, if_true, Nat.reduceSub]
    rw [step 2 _ (by omega) (fun _ => trivial)]
    simp only [show (0 : Nat) < 2 by omega, if_true, Nat.reduceSub]
    rw [step 1 _ (by omega) (fun _ => trivial)]
    simp only [show (0 : Nat) < 1 by omega, if_true, Nat.reduceSub]
    rw [step 0 _ (by omega) (fun _ => trivial)]
    rfl
  refine ⟨_, hg, ?_⟩
  · intro j hj
    rcases (by omega : j = 0 ∨ j = 1 ∨ j = 2 ∨ j = 3) with rfl | rfl | rfl | rfl
    · rw [upF_at]; exact B.num (by omega) ht
    · rw [upF_ne _ (by omega), upF_at]; exact B.num (by omega) ht
    · rw [upF_ne _ (by omega), upF_ne _ (by omega), upF_at]; exact B.num (by omega) ht
    · rw [upF_ne _ (by omega), upF_ne _ (by omega), upF_ne _ (by omega), upF_at]; exact B.num (by omega) ht
theorem Blt.getno (B : Blt b L) {i : Int} (h : i < 0 ∨ (L.length : Int) ≤ i) : getT b i = none := by
  have hN := B.n 3 (by omega)
  rw [posL_three B.right _ (Nat.le_refl _)] at hN
  unfold getT
  rw [if_pos (by rw [hN]; exact h)]
/-- A place among quads that rise: all ahead of it are less, all others are not. -/
def FndQ (L : List Qd) (q : Qd) (n : Nat) (f : Bool) : Prop :=
  n ≤ L.length ∧ (∀ t, t < n → cmpQ (qAt L t) q < 0) ∧ (∀ t, n ≤ t → t < L.length → 0 ≤ cmpQ (qAt L t) q) ∧ (f = true → n < L.length ∧ qAt L n = q) ∧ (f = false → n < L.length → 0 < cmpQ (qAt L n) q)
theorem Blt.fd (B : Blt b L) (q : Qd) : ∀ (m k A D : Nat), m = 4 - k → k < 4 → Rg L k A D → (∀ t, t < A → cmpQ (qAt L t) q < 0) → (∀ t, D ≤ t → t < L.length → 0 < cmpQ (qAt L t) q) →
    (∀ t, A ≤ t → t < D → ∀ j, j < k → (qAt L t).at j = q.at j) → FndQ L q (fdS b q (4 - k) (posL L k A) (posL L k D)).1 (fdS b q (4 - k) (posL L k A) (posL L k D)).2
  | 0, k, A, D, hm, hk, _, _, _, _ => by omega
  | m + 1, k, A, D, hm, hk, hR, hlo, hhi, hpre => by
    have R := B.right
    obtain ⟨C, c1, c2, c3, c4, c5⟩ := hR.cut R (q.at k)
    have hmn : min (posL L k D) (tN b k) = posL L k D := by rw [B.n k hk]; have := posL_mono L k hR.bn; omega
    have hml : min (posL L k A) (posL L k D) = posL L k A := by have := posL_mono L k hR.ab; omega
    have hsr := B.sr hk c1 c2 hR.bn (q.at k) c4 c5
    have hst := fd_step b q k (posL L k A) (posL L k D) (posL L k D) (posL L k C) (by omega) hmn.symm (by rw [hml, hsr])
    rw [hst]
    have hlow : ∀ t, t < C → cmpQ (qAt L t) q < 0 := fun t h => by
      by_cases hA : t < A
      · exact hlo t hA
      · exact cmp_lt hk (hpre t (by omega) (by omega)) (c4 t (by omega) h)
    have hgt : ∀ t, A ≤ t → t < D → q.at k < (qAt L t).at k → 0 < cmpQ (qAt L t) q := fun t h1 h2 h3 => cmp_gt hk (hpre t h1 h2) h3
    by_cases hCD : C = D
    · subst hCD
      rw [if_pos (.inl (Nat.le_refl _)), B.stk hk hR.bn c3]
      exact ⟨hR.bn, hlow, fun t h1 h2 => Int.le_of_lt (hhi t h1 h2), (fun h => by cases h), fun _ h => hhi _ (Nat.le_refl _) h⟩
    · have hCl : C < D := by omega
      have hfC := hR.begin hCl c3
      have hnum := B.numB hk (show C < L.length by have := hR.bn; omega) hfC
      have hpl : posL L k C < posL L k D := by have := posL_yes (L := L) hfC; have := posL_mono L k (show C + 1 ≤ D by omega); omega
      by_cases hne : (qAt L C).at k = q.at k
      · rw [if_neg (by rw [hnum]; rintro (h | h); · omega
                       · exact h hne)]
        obtain ⟨E, e1, e2, e3, e4⟩ := hR.next c1 hCl
        by_cases hk3 : k = 3
        · subst hk3
          rw [if_pos rfl, posL_three R C (by have := hR.bn; omega)]
          have hCq : qAt L C = q := qd_ext fun j hj => by
            by_cases hj3 : j = 3
            · subst hj3; exact hne
            · exact hpre C c1 hCl j (by omega)
          refine ⟨by have := hR.bn; omega, hlow, fun t h1 h2 => ?_, fun _ => ⟨by have := hR.bn; omega, hCq⟩, (fun h => by cases h)⟩
          by_cases hD : t < D
          · rcases Nat.eq_or_lt_of_le h1 with rfl | h1
            · rw [hCq]; unfold cmpQ; simp
            · have hup := hR.up R c1 (show C < C + 1 by omega) (by have := R.fK_lt (i := C + 1) (by have := hR.bn; omega); omega) h1 hD
              exact Int.le_of_lt (hgt t (by omega) hD (by omega))
          · exact Int.le_of_lt (hhi t (by omega) h2)
        · rw [if_neg hk3, B.chl (by omega) (by have := hR.bn; omega) c3, B.chh (by omega) e1 (by have := hR.bn; omega) hfC e3 e4]
          refine Blt.fd B q m (k + 1) C E (by omega) (by omega) (hR.below c1 e1 e2 c3 e3 e4) hlow (fun t h1 h2 => ?_) (fun t h1 h2 j hj => ?_)
          · by_cases hD : t < D
            · have hup := hR.up R c1 e1 (hR.begin (show E < D by omega) e3) h1 hD
              exact hgt t (by omega) hD (by omega)
            · exact hhi t (by omega) h2
          · by_cases hjk : j = k
            · subst hjk
              rw [← hne]
              exact (hR.below c1 e1 e2 c3 e3 e4).eq (show j < j + 1 by omega) h1 h2
            · exact hpre t (by omega) (by omega) j (by omega)
      · rw [if_pos (.inr (by rw [hnum]; exact hne)), B.stk hk (by have := hR.bn; omega) c3]
        have hCgt : ∀ t, C ≤ t → t < D → 0 < cmpQ (qAt L t) q := fun t h1 h2 => by
          have h3 := c5 C (Nat.le_refl _) hCl
          have h4 := hR.mono R c1 h1 h2
          exact hgt t (by omega) h2 (by omega)
        refine ⟨by have := hR.bn; omega, hlow, fun t h1 h2 => ?_, (fun h => by cases h), fun _ _ => hCgt C (Nat.le_refl _) hCl⟩
        by_cases hD : t < D
        · exact Int.le_of_lt (hCgt t h1 hD)
        · exact Int.le_of_lt (hhi t (by omega) h2)
theorem Blt.find (B : Blt b L) (q : Qd) : FndQ L q (findT b q).1 (findT b q).2 := by
  have := B.fd q 4 0 0 L.length rfl (by omega) (Rg.all L) (fun t h => by omega) (fun t h1 h2 => by omega) (fun t _ _ j hj => by omega)
  unfold findT
  rw [B.n 0 (by omega)]
  exact this
end
end Go.Proofs.Ytgajpekolamjbaa
/- The document's Agrees: does a quad agree with a pattern? -/
namespace Go.Proofs.Ytgajpekolamjbaa
open Go Go.RowKit Go.Tk
/-- Does a number agree? The first ones? -/
def agN (p q : Qd) (k : Nat) : Bool := !(decide (0 ≤ p.at k) && (p.at k != q.at k))
def agK (p q : Qd) : Nat → Bool
  | 0 => true
  | k + 1 => agK p q k && agN p q k
theorem agK_no {p q : Qd} {k j : Nat} (h : agN p q k = false) (hj : k < j) : agK p q j = false := by
  induction j with
  | zero => omega
  | succ j ih =>
    simp only [agK]
    by_cases hk : k = j
    · subst hk; rw [h, Bool.and_false]
    · rw [ih (by omega), Bool.false_and]
set_option maxRecDepth 100000 in
theorem agrees_calls (w : World) (p q : Qd) :
    Calls Try.prog 28 #[.agg (qcs p).toArray, .agg (qcs q).toArray] w fun e w' => e = .returned (.bool (agK p q 4)) ∧ Below w.heap.size w w' := by
  have hB0 : Below w.heap.size w ((w.alloc (.cells (qcs p).toArray 24)).alloc (.cells (qcs q).toArray 24)) := ((Below.refl _ _).alloc (Nat.le_refl _) _).alloc (by simp) _
  have hp0 : ((w.alloc (.cells (qcs p).toArray 24)).alloc (.cells (qcs q).toArray 24)).heap[w.heap.size]? = some (.cells (qcs p).toArray 24 (0, 0)) := (heap_alloc_old _ _ (by simp)).trans (heap_alloc_new _ _)
  have hq0 : ((w.alloc (.cells (qcs p).toArray 24)).alloc (.cells (qcs q).toArray 24)).heap[w.heap.size + 1]? = some (.cells (qcs q).toArray 24 (0, 0)) := by
    have := heap_alloc_new (w.alloc (.cells (qcs p).toArray 24)) (.cells (qcs q).toArray 24)
    rwa [World.size_alloc] at this
  go_enter Try.func28, Try.ntmps28
  go_upto_region 1 with fail
  generalize (w.alloc (.cells (qcs p).toArray 24)).alloc (.cells (qcs q).toArray 24) = w0 at hB0 hp0 hq0 ⊢
  have hpc : ∀ m k, k < 4 → (w0.drewN m).cell? ⟨w.heap.size, k, none⟩ = some (.int .i64 (p.at k)) := fun m k hk => qcs_cell (w := w0.drewN m) hp0 k hk
  have hqc : ∀ m k, k < 4 → (w0.drewN m).cell? ⟨w.heap.size + 1, k, none⟩ = some (.int .i64 (q.at k)) := fun m k hk => qcs_cell (w := w0.drewN m) hq0 k hk
  have HPC := Lib.hid hpc
  have HQC := Lib.hid hqc
  have HB0 := Lib.hid hB0
  clear hpc hqc hp0 hq0 hB0
  go_wp2_with fail
  go_loopw [5] (fun kv wr => ∃ k m : Nat, kv = .int .i64 (k : Nat) ∧ k ≤ 4 ∧ agK p q k = true ∧ wr = w0.drewN m) (fun kv _ => 4 - (intOf kv).toNat)
  case atStart => exact ⟨0, 0, rfl, by omega, rfl, rfl⟩
  case round =>
    rename World => wr
    obtain ⟨k, m, rfl, hk, hf, hwr⟩ := hrel
    have HF := Lib.hid hf
    have HWR := Lib.hid hwr
    have HBW := Lib.hid (show Below w.heap.size w wr by rw [hwr]; exact below_drewN HB0.out m)
    clear hf hwr
    by_cases hk4 : k < 4
    rotate_left
    · obtain rfl : k = 4 := by omega
      go_wp2_with fail
      go_ret
      exact ⟨by rw [HF.out]; rfl, HBW.out⟩
    · have cp : wr.cell? ⟨w.heap.size, k, none⟩ = some (.int .i64 (p.at k)) := by rw [HWR.out]; exact HPC.out m k hk4
      have cq : wr.cell? ⟨w.heap.size + 1, k, none⟩ = some (.int .i64 (q.at k)) := by rw [HWR.out]; exact HQC.out m k hk4
      obtain ⟨x, hx⟩ : ∃ x, x = p.at k := ⟨_, rfl⟩
      obtain ⟨y, hy⟩ : ∃ y, y = q.at k := ⟨_, rfl⟩
      have hag : agN p q k = !(decide (0 ≤ x) && (x != y)) := by rw [hx, hy]; rfl
      rw [← hx] at cp
      rw [← hy] at cq
      have HAG := Lib.hid hag
      have d0 : decide ((k : Int) < 4) = true := decide_eq_true (by omega)
      clear hx hy hag
      have hcase : (0 ≤ x ∧ x ≠ y) ∨ ¬ (0 ≤ x ∧ x ≠ y) := Classical.em _
      rcases hcase with ⟨h1, h2⟩ | hno
      · have d1 : decide (0 ≤ x) = true := decide_eq_true h1
        have d2 : (x != y) = true := by simp [h2]
        have HN := Lib.hid (show agK p q 4 = false from agK_no (by rw [HAG.out, d1, d2]; rfl) hk4)
        go_wp2_with fail
        go_quiet (fail)
        go_wp2_with fail
        go_ret
        exact ⟨by rw [HN.out]; rfl, below_drewN HBW.out nq⟩
      · have HY := Lib.hid (show agK p q (k + 1) = true by
          simp only [agK]; rw [HF.out, HAG.out]
          by_cases h1 : 0 ≤ x
          · have : x = y := Classical.not_not.1 fun h => hno ⟨h1, h⟩
            simp [this]
          · simp [h1])
        by_cases h1 : 0 ≤ x
        · have d1 : decide (0 ≤ x) = true := decide_eq_true h1
          have d2 : (x != y) = false := by simp; exact Classical.not_not.1 fun h => hno ⟨h1, h⟩
          go_wp2_with fail
          go_quiet (fail)
          go_wp2_with fail
          exact ⟨⟨k + 1, m + nq, by go_num, by omega, HY.out, by rw [HWR.out]; simp [World.drewN, Nat.add_assoc]⟩, by simp [intOf]; omega⟩
        · have d1 : decide (0 ≤ x) = false := decide_eq_false h1
          go_wp2_with fail
          go_quiet (fail)
          go_wp2_with fail
          exact ⟨⟨k + 1, m + nq, by go_num, by omega, HY.out, by rw [HWR.out]; simp [World.drewN, Nat.add_assoc]⟩, by simp [intOf]; omega⟩
end Go.Proofs.Ytgajpekolamjbaa
/- The bytes of a tree tell a tree: View and Open take them; numbers, ranks. Plain. -/
namespace Go.Tk
open Go Go.RowKit
theorem acB_bit (l : List UInt8) (p : Nat) : ∀ K q, (acB l p K).testBit q = (decide (q < 8 * K) && btB l (8 * p + q))
  | 0, q => by simp [acB]
  | K + 1, q => by
    have h := acB_lt l p K
    simp only [acB]
    rw [Nat.add_comm, Nat.mul_comm, Nat.testBit_two_pow_mul_add _ h]
    by_cases hq : q < 8 * K
    · rw [if_pos hq, acB_bit l p K q, decide_eq_true hq, decide_eq_true (show q < 8 * (K + 1) by omega)]
    · rw [if_neg hq]
      by_cases h8 : q < 8 * (K + 1)
      · rw [decide_eq_true h8, Bool.true_and]
        unfold btB
        rw [show (8 * p + q) / 8 = p + K by omega, show (8 * p + q) % 8 = q - 8 * K by omega]
      · rw [decide_eq_false h8, Bool.false_and]
        exact Nat.testBit_lt_two_pow (Nat.lt_of_lt_of_le (UInt8.toNat_lt _) (Nat.pow_le_pow_right (by decide) (by omega : 8 ≤ q - 8 * K)))
theorem numF_bit (l : List UInt8) (wd i : Nat) (h : wd ≤ 23) (j : Nat) : (numF l wd i).testBit j = (decide (j < wd) && btB l (i * wd + j)) := by
  unfold numF
  rw [Nat.testBit_mod_two_pow, Nat.testBit_div_two_pow, acB_bit]
  have hb : ∀ q, q < 31 → (decide (q < 8 * 4) && btB l (8 * (i * wd / 8) + q)) = btB l (8 * (i * wd / 8) + q) := fun q hq => by rw [decide_eq_true (by omega), Bool.true_and]
  by_cases hj : j < wd
  · rw [decide_eq_true hj, Bool.true_and, Bool.true_and, hb _ (by omega)]
    congr 1; omega
  · rw [decide_eq_false hj, Bool.false_and, Bool.false_and]
theorem bitI_nums (l : List UInt8) (q : Nat) : bitI (nums l) q = btB l q := by
  unfold bitI btB
  congr 1
  by_cases h : q / 8 < l.length
  · simp [nums, h]
  · simp [nums, h]
/-- Packed numbers, by the tree's own way of reading. -/
theorem numF_pack {ns : List Int} (hz : ∀ i, i < ns.length → 0 ≤ ns.getD i 0 ∧ ns.getD i 0 < 18446744073709551616) {d R : Nat} (hd : d ≤ 23) (hR : ns.length * d ≤ 8 * R) (hf : ∀ i, i < ns.length → bw (ns.getD i 0) ≤ d) {P : List UInt8}
    (hP : nums P = packTo ns d R ns.length) (i : Nat) (hi : i < ns.length) : ((numF P d i : Nat) : Int) = ns.getD i 0 := by
  obtain ⟨h0, h1⟩ := hz i hi
  have hlt := lt_of_bw h0 h1 (hf i hi)
  have : numF P d i = (ns.getD i 0).toNat := by
    apply Nat.eq_of_testBit_eq
    intro j
    rw [numF_bit P d i hd, ← bitI_nums, hP, pack_bit hz d R _ (Nat.le_refl _) hR]
    by_cases hj : j < d
    · have e1 : (i * d + j) / d = i := by rw [Nat.mul_comm, Nat.mul_add_div (by omega), Nat.div_eq_of_lt hj, Nat.add_zero]
      have e2 : (i * d + j) % d = j := by rw [Nat.mul_comm, Nat.mul_add_mod, Nat.mod_eq_of_lt hj]
      have e3 : i * d + j < ns.length * d := by
        have : (i + 1) * d ≤ ns.length * d := Nat.mul_le_mul_right d hi
        rw [Nat.add_mul] at this; omega
      rw [e1, e2, decide_eq_true hj, decide_eq_true e3, Bool.true_and, Bool.true_and]
    · rw [decide_eq_false hj, Bool.false_and]
      exact (Nat.testBit_lt_two_pow (Nat.lt_of_lt_of_le hlt (Nat.pow_le_pow_right (by decide) (by omega)))).symm
  rw [this]; omega
end Go.Tk
namespace Go.Proofs.Ytgajpekolamjbaa
open Go.RowKit Go.Tk
theorem ups_vz (x : Int) (pre r : List Int) (h0 : 0 ≤ x) (h1 : x < 18446744073709551616) {i : Nat} (hi : i = pre.length) : upS (pre ++ (vz x ++ r)) i 0 mxU = (x, i + (vz x).length, 0) := by
  subst hi
  unfold upS
  rw [if_neg (by simp), List.drop_left, pk_back x r h0 h1]
  simp only
  rw [if_neg (by simp), if_neg (by unfold mxU; omega)]
  simp
theorem fV_wh {d : List UInt8} {N : Nat} (hl : d.length = (N + 7) / 8) (hN : N ≤ 67108864) : fV (whB d N) = (0, 0) := by
  have h0 := wh_n (d := d) hN
  have h4 := wh_m (d := d) hN
  have hle := cnt_le d N
  have hlen : (whB d N).length = oE N (cntB d N) := by rw [wh_len']; exact (o_eq hl).2.2.2.symm
  have h8 : 8 ≤ (whB d N).length := by rw [wh_len]; omega
  have hsh : shF (whB d N) = (0, 0) := by
    unfold shF
    rw [h0, h4, if_neg (by omega), if_neg (by omega), if_neg (by omega), if_neg (by omega)]
  unfold fV
  rw [hsh, h0, h4, if_neg (by simp), if_neg (by omega)]
theorem open_whB {d : List UInt8} {N x y : Nat} (hl : d.length = (N + 7) / 8) (hN : N ≤ 67108864) (hp : padB d N = true) (h : OpenR (whB d N) x y) : x = 0 ∧ y = 0 := by
  have h0 := wh_n (d := d) hN
  have h4 := wh_m (d := d) hN
  have hle := cnt_le d N
  have hlen : (whB d N).length = oE N (cntB d N) := by rw [wh_len']; exact (o_eq hl).2.2.2.symm
  have h8 : 8 ≤ (whB d N).length := by rw [wh_len]; omega
  have hda : daB (whB d N) N = d := by unfold daB; rw [← hl]; exact wh_cut d N
  have hsh : shF (whB d N) = (0, 0) := by
    unfold shF
    rw [h0, h4, if_neg (by omega), if_neg (by omega), if_neg (by omega), if_neg (by omega)]
  unfold OpenR at h
  rw [hsh, h0, h4, hda] at h
  rcases h with ⟨h, _⟩ | ⟨_, h, _⟩ | ⟨_, _, h, _⟩ | ⟨_, _, _, f, L, hf, hL, hr⟩
  · exact absurd rfl h
  · rw [hp] at h; cases h
  · exact absurd rfl h
  have hall : ∀ t, t ∈ L → Go.Proofs.Ytgajpekolamjbaa.numT (whB d N) d N t = t.2.2 := by
    intro t ht
    obtain ⟨part, i, v⟩ := t
    have hVt := (hL _).1 ht
    obtain ⟨g1, g2⟩ := wh_at hVt
    have hv := vt_le hVt hN
    rcases hVt with ⟨h1, h2⟩ | ⟨h1, h2⟩ | ⟨h1, h2⟩
    · simp only at h1 h2
      subst h1
      rw [show szT (2048, i, v) = 4 from rfl] at g2
      show f4 (whB d N) (posT d N (2048, i, v)) = v
      exact f4_of g2 (by show v < _; omega)
    · simp only at h1 h2
      subst h1
      rw [show szT (256, i, v) = 2 from rfl] at g2
      have hvv : v < 65536 := by
        have hi := (List.getElem?_eq_some_iff.1 h2).1
        rw [sm_len] at hi
        rw [sm_get d i N (by omega)] at h2
        have := Option.some.inj h2
        have g2 := cnt_add d (i / 8 * 2048) (i * 256 - i / 8 * 2048)
        rw [show i / 8 * 2048 + (i * 256 - i / 8 * 2048) = i * 256 by omega] at g2
        omega
      show f2 (whB d N) (posT d N (256, i, v)) = v
      exact f2_of g2 hvv
    · simp only at h1 h2
      subst h1
      rw [show szT (512, i, v) = 4 from rfl] at g2
      show f4 (whB d N) (posT d N (512, i, v)) = v
      exact f4_of g2 (by show v < _; omega)
  have hf1 : f = -1 := by
    rcases hf with ⟨h, _⟩ | ⟨t, h1, h2, _⟩
    · exact h
    · exact absurd (hall t h1) h2
  rcases hr with ⟨h, _⟩ | ⟨_, h, _⟩ | ⟨_, _, h1, h2⟩
  · exact absurd hf1 h
  · omega
  · exact ⟨h1, h2⟩
end Go.Proofs.Ytgajpekolamjbaa
/- View and Open take the bytes of a tree; what they tell. Plain. -/
namespace Go.Proofs.Ytgajpekolamjbaa
open Go.RowKit Go.Tk
/-- A level's numbers, their width, how they are packed. -/
structure LvF (L : List Qd) (k W : Nat) : Prop where
  w : wdL (levN L k L.length) = (W : Int)
  le : W ≤ 23
  z : ∀ i, i < (levN L k L.length).length → 0 ≤ (levN L k L.length).getD i 0 ∧ (levN L k L.length).getD i 0 ≤ 4194304
  fit : ∀ i, i < (levN L k L.length).length → bw ((levN L k L.length).getD i 0) ≤ W
  pack : packOut (levN L k L.length) (wdL (levN L k L.length)) = packTo (levN L k L.length) W (((levN L k L.length).length * W + 7) / 8) (levN L k L.length).length
theorem mxL_ge (zs : List Int) {x : Int} (h : x ∈ zs) : x ≤ mxL zs := (foldl_max zs 0).2.1 x h
theorem lvF {L : List Qd} (R : Right L) (k : Nat) : ∃ W, LvF L k W := by
  obtain ⟨ns, hns⟩ : ∃ ns, ns = levN L k L.length := ⟨_, rfl⟩
  have hr : ∀ x ∈ ns, 0 ≤ x ∧ x ≤ 4194304 := by rw [hns]; exact R.num k _ (Nat.le_refl _)
  have hz : ∀ i, i < ns.length → 0 ≤ ns.getD i 0 ∧ ns.getD i 0 ≤ 4194304 := fun i hi => by
    have : ns.getD i 0 = ns[i] := by simp [hi]
    rw [this]; exact hr _ (List.getElem_mem hi)
  have hm := mxL_range hr (by omega)
  have hb := bw_range (mxL ns)
  obtain ⟨W, hW⟩ : ∃ W : Nat, W = (wdL ns).toNat := ⟨_, rfl⟩
  have hw : wdL ns = (W : Int) := by rw [hW]; unfold wdL; omega
  have hle : W ≤ 23 := by
    have := bw_le_of (x := (mxL ns).toNat) (d := 23) (by omega)
    have e : (((mxL ns).toNat : Nat) : Int) = mxL ns := by omega
    rw [e] at this
    unfold wdL at hw; omega
  have hfit : ∀ i, i < ns.length → bw (ns.getD i 0) ≤ W := fun i hi => by
    have h1 := lt_of_bw (x := mxL ns) hm.1 (by omega) (d := W) (by unfold wdL at hw; omega)
    have h2 : ns.getD i 0 ≤ mxL ns := by
      have : ns.getD i 0 = ns[i] := by simp [hi]
      rw [this]; exact mxL_ge ns (List.getElem_mem hi)
    have h3 := bw_le_of (x := (ns.getD i 0).toNat) (d := W) (by have := hz i hi; omega)
    have e : (((ns.getD i 0).toNat : Nat) : Int) = ns.getD i 0 := by have := hz i hi; omega
    rw [e] at h3; exact h3
  have hok : packOk ns (W : Int) = true := by
    unfold packOk
    rw [decide_eq_true (show (0 : Int) ≤ (W : Int) ∧ (W : Int) ≤ 64 by omega), fit_anyW hfit]; rfl
  refine ⟨W, ?_, hle, ?_, ?_, ?_⟩
  · rw [← hns]; exact hw
  · rw [← hns]; exact hz
  · rw [← hns]; exact hfit
  · rw [← hns, hw]
    unfold packOut
    rw [if_pos hok, Int.toNat_natCast]
theorem LvF.z64 {L : List Qd} {k W : Nat} (h : LvF L k W) : ∀ i, i < (levN L k L.length).length → 0 ≤ (levN L k L.length).getD i 0 ∧ (levN L k L.length).getD i 0 < 18446744073709551616 := fun i hi => by have := h.z i hi; omega
theorem LvF.len {L : List Qd} {k W : Nat} (h : LvF L k W) : (packOut (levN L k L.length) (wdL (levN L k L.length))).length = (posL L k L.length * W + 7) / 8 := by
  rw [h.pack, packTo_len]; rfl
/-- A level's vector. -/
def vcB (L : List Qd) (k : Nat) : List UInt8 := packB (lastB L k)
theorem vc_len (L : List Qd) (k : Nat) : (vcB L k).length = (posL L k L.length + 7) / 8 := by unfold vcB; rw [pack_len, last_len]
theorem vc_pad (L : List Qd) (k : Nat) : padB (vcB L k) (posL L k L.length) = true := by unfold vcB; rw [← last_len]; exact pack_pad _
theorem pos_small {L : List Qd} (R : Right L) (k : Nat) : posL L k L.length ≤ 1048576 := Nat.le_trans (posL_le L k _) R.len
/-- What lies where a level's bytes lie. -/
structure SecF (b : List UInt8) (L : List Qd) (k p W : Nat) : Prop where
  next : tA b (k + 1) = p + (secB L k).length
  w : tW b k = W
  en : tE b k = p + 1 + (posL L k L.length * W + 7) / 8
  pk : nums (tP b k) = packOut (levN L k L.length) (wdL (levN L k L.length))
  vc : 0 < k → tB b k = whB (vcB L k) (posL L k L.length)
theorem sec_of {b : List UInt8} {L : List Qd} (R : Right L) {k W : Nat} (hW : LvF L k W) (pre post : List Int) (hb : nums b = pre ++ (secB L k ++ post)) (hA : tA b k = pre.length) (hn : tN b k = posL L k L.length) (hn' : 0 < k → tN b (k - 1) = posL L (k - 1) L.length) :
    SecF b L k pre.length W := by
  obtain ⟨tl, htl⟩ : ∃ tl, tl = if k = 0 then [] else nums (whB (packB (lastB L k)) (levN L k L.length).length) := ⟨_, rfl⟩
  obtain ⟨po, hpo⟩ : ∃ po, po = packOut (levN L k L.length) (wdL (levN L k L.length)) := ⟨_, rfl⟩
  have hsec : secB L k = (W : Int) :: (po ++ tl) := by rw [hpo, htl, ← hW.w]; rfl
  have hpl : po.length = (posL L k L.length * W + 7) / 8 := by rw [hpo]; exact hW.len
  rw [hsec] at hb
  have hw : tW b k = W := by
    unfold tW bAt
    rw [hA]
    refine getD_nums ?_
    rw [hb, List.getElem?_append_right (Nat.le_refl _), Nat.sub_self]; rfl
  have hE : tE b k = pre.length + 1 + (posL L k L.length * W + 7) / 8 := by unfold tE; rw [hA, hw, hn]
  have hb2 : nums b = (pre ++ [(W : Int)]) ++ (po ++ (tl ++ post)) := by rw [hb]; simp
  have hb3 : nums b = (pre ++ [(W : Int)] ++ po) ++ (tl ++ post) := by rw [hb]; simp
  have hpk : nums (tP b k) = po := by
    unfold tP
    rw [← nums_cut, hA, hE, hb2, show pre.length + 1 = (pre ++ [(W : Int)]).length by simp, List.drop_left, show (pre ++ [(W : Int)]).length + (posL L k L.length * W + 7) / 8 - (pre ++ [(W : Int)]).length = po.length by rw [hpl]; omega, List.take_left]
  have htll : tl.length = if k = 0 then 0 else oE (tN b k) (tN b (k - 1)) := by
    rw [htl]
    by_cases hk : k = 0
    · rw [if_pos hk, if_pos hk]; rfl
    · rw [if_neg hk, if_neg hk, nums_len, wh_len', hn, hn' (by omega)]
      obtain ⟨j, rfl⟩ : ∃ j, k = j + 1 := ⟨k - 1, by omega⟩
      have := last_all L j
      rw [Nat.add_sub_cancel, ← this]
      exact (o_eq (vc_len L (j + 1))).2.2.2.symm
  have hnx : tA b (k + 1) = pre.length + (secB L k).length := by
    rw [tA_succ, hE, ← htll, hsec, List.length_cons, List.length_append, hpl]; omega
  refine ⟨hnx, hw, hE, by rw [hpk, hpo], fun hk => ?_⟩
  apply nums_inj
  unfold tB
  rw [← nums_cut, hE, hnx, hb3, show pre.length + 1 + (posL L k L.length * W + 7) / 8 = (pre ++ [(W : Int)] ++ po).length by simp [hpl]; omega, List.drop_left]
  rw [show pre.length + (secB L k).length - (pre ++ [(W : Int)] ++ po).length = tl.length by rw [hsec]; simp; omega, List.take_left, htl, if_neg (by omega)]
  rfl
/-- The head. -/
def pvL (L : List Qd) : Nat → List Int
  | 0 => []
  | k + 1 => pvL L k ++ vz ((posL L k L.length : Nat) : Int)
theorem head_eq (L : List Qd) : headB L = pvL L 4 := by simp [headB, pvL, posL]
theorem head_of {b : List UInt8} {L : List Qd} (R : Right L) (post : List Int) (hb : nums b = headB L ++ post) : ∀ k, k < 4 → tUp b k = (((posL L k L.length : Nat) : Int), (pvL L (k + 1)).length, 0) := by
  have hpre : ∀ k, k ≤ 4 → ∃ r, nums b = pvL L k ++ r := by
    intro k hk
    have : ∀ m, k + m = 4 → ∃ r, pvL L 4 = pvL L k ++ r := by
      intro m
      induction m generalizing k with
      | zero => intro h; obtain rfl : k = 4 := by omega
                exact ⟨[], by simp⟩
      | succ m ih => intro h; obtain ⟨r, hr⟩ := ih (k + 1) (by omega) (by omega); exact ⟨_, by rw [hr]; simp only [pvL]; rw [List.append_assoc]⟩
    obtain ⟨r, hr⟩ := this (4 - k) (by omega)
    exact ⟨r ++ post, by rw [hb, head_eq, hr, List.append_assoc]⟩
  have hpl : ∀ k, k < 4 → tPl b k = (pvL L k).length → tUp b k = (((posL L k L.length : Nat) : Int), (pvL L (k + 1)).length, 0) := by
    intro k hk h
    obtain ⟨r, hr⟩ := hpre (k + 1) (by omega)
    have hs := pos_small R k
    rw [tUp_at, h, hr]
    simp only [pvL]
    rw [List.append_assoc, ups_vz _ _ _ (by omega) (by omega) rfl, List.length_append]
  intro k
  induction k with
  | zero => intro _; exact hpl 0 (by omega) rfl
  | succ k ih =>
    intro hk
    refine hpl (k + 1) hk ?_
    have := ih (by omega)
    show (tUp b k).2.1 = _
    rw [this]
structure TreeF (b : List UInt8) (L : List Qd) : Prop where
  n : ∀ k, k < 4 → tN b k = posL L k L.length
  er : ∀ k, k < 4 → (tUp b k).2.2 = 0 ∧ (tUp b k).1 = (posL L k L.length : Nat)
  sec : ∀ k, k < 4 → ∃ p W, LvF L k W ∧ SecF b L k p W ∧ tA b k = p
  len : tA b 4 = b.length
theorem tree_of {b : List UInt8} {L : List Qd} (R : Right L) (hb : nums b = treeB L) : TreeF b L := by
  have hh := head_of R (secB L 0 ++ secB L 1 ++ secB L 2 ++ secB L 3) (by rw [hb]; simp [treeB])
  have hn : ∀ k, k < 4 → tN b k = posL L k L.length := fun k hk => by unfold tN; rw [hh k hk]; rfl
  have h0 : tA b 0 = (headB L).length := by
    show tPl b 4 = _
    show (tUp b 3).2.1 = _
    rw [hh 3 (by omega), head_eq]
  obtain ⟨W0, f0⟩ := lvF R 0
  obtain ⟨W1, f1⟩ := lvF R 1
  obtain ⟨W2, f2⟩ := lvF R 2
  obtain ⟨W3, f3⟩ := lvF R 3
  have s0 := sec_of (b := b) R f0 (headB L) (secB L 1 ++ secB L 2 ++ secB L 3) (by rw [hb]; simp [treeB]) h0 (hn 0 (by omega)) (fun h => by omega)
  have s1 := sec_of (b := b) R f1 (headB L ++ secB L 0) (secB L 2 ++ secB L 3) (by rw [hb]; simp [treeB]) (by rw [s0.next]; simp) (hn 1 (by omega)) (fun h => hn 0 (by omega))
  have s2 := sec_of (b := b) R f2 (headB L ++ secB L 0 ++ secB L 1) (secB L 3) (by rw [hb]; simp [treeB]) (by rw [s1.next]; simp; omega) (hn 2 (by omega)) (fun h => hn 1 (by omega))
  have s3 := sec_of (b := b) R f3 (headB L ++ secB L 0 ++ secB L 1 ++ secB L 2) [] (by rw [hb]; simp [treeB]) (by rw [s2.next]; simp; omega) (hn 3 (by omega)) (fun h => hn 2 (by omega))
  refine ⟨hn, fun k hk => by rw [hh k hk]; exact ⟨rfl, rfl⟩, fun k hk => ?_, ?_⟩
  · rcases (by omega : k = 0 ∨ k = 1 ∨ k = 2 ∨ k = 3) with rfl | rfl | rfl | rfl
    · exact ⟨_, W0, f0, s0, h0⟩
    · exact ⟨_, W1, f1, s1, by rw [s0.next]; simp⟩
    · exact ⟨_, W2, f2, s2, by rw [s1.next]; simp; omega⟩
    · exact ⟨_, W3, f3, s3, by rw [s2.next]; simp; omega⟩
  · rw [s3.next, ← nums_len b, hb]; simp [treeB]; omega
theorem TreeF.vec {b : List UInt8} {L : List Qd} (R : Right L) (T : TreeF b L) {k : Nat} (h0 : 0 < k) (hk : k < 4) : tB b k = whB (vcB L k) (posL L k L.length) := by
  obtain ⟨p, W, _, s, _⟩ := T.sec k hk
  exact s.vc h0
theorem vc_all (L : List Qd) {k : Nat} (h0 : 0 < k) : cntB (vcB L k) (posL L k L.length) = posL L (k - 1) L.length := by
  obtain ⟨j, rfl⟩ : ∃ j, k = j + 1 := ⟨k - 1, by omega⟩
  exact last_all L j
/-- The bytes of a tree answer as a tree does. -/
theorem blt_of {b : List UInt8} {L : List Qd} (R : Right L) (hb : nums b = treeB L) : Blt b L := by
  have T := tree_of R hb
  refine ⟨R, T.n, fun k i hk hi => ?_, fun k h0 hk => ?_, fun k i h0 hk => ?_, fun k i h0 hk => ?_⟩
  · obtain ⟨p, W, f, s, _⟩ := T.sec k hk
    unfold tM
    rw [s.w]
    refine numF_pack f.z64 (R := ((levN L k L.length).length * W + 7) / 8) f.le (by omega) f.fit ?_ i hi
    rw [s.pk, f.pack]
  · have hs := pos_small R k
    unfold tV
    rw [T.vec R h0 hk, fV_wh (vc_len L k) (by omega), wh_n (by omega), wh_m (by omega), vc_all L h0, T.n k hk, T.n (k - 1) (by omega)]
    simp [h0]
  · have hs := pos_small R k
    unfold rkT
    rw [T.vec R h0 hk, T.n k hk, T.n (k - 1) (by omega), ← vc_all L h0, rank_wh (vc_len L k) (by omega), Int.toNat_natCast]
    rfl
  · unfold slT
    have e : (fun j : Nat => ((rkT b k (j : Nat) : Nat) : Int)) = fun j : Nat => ((rankV (whB (vcB L k) (posL L k L.length)) (posL L k L.length) (cntB (vcB L k) (posL L k L.length)) (j : Nat) : Nat) : Int) := by
      funext j
      unfold rkT
      rw [T.vec R h0 hk, T.n k hk, T.n (k - 1) (by omega), vc_all L h0]
    rw [e, T.n k hk, T.n (k - 1) (by omega), ← vc_all L h0]
    rfl
/-- View takes them. -/
theorem vw_of {b : List UInt8} {L : List Qd} (R : Right L) (hb : nums b = treeB L) : vwE b = (0, 0) := by
  have T := tree_of R hb
  have hz : ∀ k, posL L k L.length = 0 ↔ L.length = 0 := fun k => ⟨fun h => by
    refine Decidable.byContradiction fun hn => ?_
    have := posL_pos L k (show 0 < L.length by omega); omega, fun h => by rw [h]; rfl⟩
  have hc : ∀ k, k < 4 → cE b k = (0, 0) := fun k hk => by
    have hs := pos_small R k
    unfold cE
    rw [(T.er k hk).1, (T.er k hk).2, if_neg (by simp), if_neg (by omega), if_neg]
    rintro ⟨h0, h⟩
    rw [T.n k hk, T.n (k - 1) (by omega)] at h
    obtain ⟨j, rfl⟩ : ∃ j, k = j + 1 := ⟨k - 1, by omega⟩
    rw [Nat.add_sub_cancel] at h
    have hu := posL_up L j L.length
    have h1 := hz j
    have h2 := hz (j + 1)
    rcases h with h | h
    · omega
    · apply h
      by_cases hL : L.length = 0
      · rw [decide_eq_true (h1.2 hL), decide_eq_true (h2.2 hL)]
      · rw [decide_eq_false (fun e => hL (h1.1 e)), decide_eq_false (fun e => hL (h2.1 e))]
  have hcn : ∀ k, k ≤ 4 → cnE b k = (0, 0) := by
    intro k
    induction k with
    | zero => intro _; rfl
    | succ k ih => intro hk; simp only [cnE]; rw [ih (by omega), if_neg (by simp), hc k (by omega)]
  have hmono : ∀ k, k < 4 → tA b k < tA b (k + 1) := fun k hk => by have := tX_ge b k; have := tE_ge b k; omega
  have hend : ∀ k, k < 4 → tA b (k + 1) ≤ b.length := fun k hk => by
    rw [← T.len]
    have h1 := hmono 1 (by omega)
    have h2 := hmono 2 (by omega)
    have h3 := hmono 3 (by omega)
    rcases (by omega : k = 0 ∨ k = 1 ∨ k = 2 ∨ k = 3) with rfl | rfl | rfl | rfl
    · simp only [Nat.reduceAdd] at *; omega
    · simp only [Nat.reduceAdd] at *; omega
    · simp only [Nat.reduceAdd] at *; omega
    · exact Nat.le_refl _
  have hl : ∀ k, k < 4 → lE b k = (0, 0) := fun k hk => by
    obtain ⟨p, W, f, s, hp⟩ := T.sec k hk
    have h1 := hmono k hk
    have h2 := hend k hk
    have h3 := f.le
    have h4 := s.w
    unfold lE
    rw [if_neg (by omega), if_neg (by omega), if_neg (by omega)]
  have hlv : ∀ k, k ≤ 4 → lvE b k = (0, 0) := by
    intro k
    induction k with
    | zero => intro _; exact hcn 4 (Nat.le_refl _)
    | succ k ih => intro hk; simp only [lvE]; rw [ih (by omega), if_neg (by simp), hl k (by omega)]
  unfold vwE
  rw [hlv 4 (Nat.le_refl _), if_neg (by simp), if_neg (by rw [T.len]; omega)]
end Go.Proofs.Ytgajpekolamjbaa
/- Open takes the bytes of a tree. Plain. -/
namespace Go.Proofs.Ytgajpekolamjbaa
open Go.RowKit Go.Tk
theorem okN_at {q : Qd} (h : okQ q = true) {k : Nat} (hk : k < 4) : okN k (q.at k) = true := by
  unfold okQ at h
  simp only [Bool.and_eq_true] at h
  obtain ⟨⟨⟨h0, h1⟩, h2⟩, h3⟩ := h
  rcases (by omega : k = 0 ∨ k = 1 ∨ k = 2 ∨ k = 3) with rfl | rfl | rfl | rfl
  · exact h0
  · exact h1
  · exact h2
  · exact h3
section
variable {b : List UInt8} {L : List Qd}
theorem Blt.mx (B : Blt b L) {k : Nat} (hk : k < 4) : ((mxN b k (posL L k L.length) : Nat) : Int) = mxL (levN L k L.length) := by
  have key : ∀ i, i ≤ posL L k L.length → ((mxN b k i : Nat) : Int) = ((levN L k L.length).take i).foldl max 0 := by
    intro i
    induction i with
    | zero => intro _; rfl
    | succ i ih =>
      intro hi
      have hl : i < (levN L k L.length).length := hi
      have hm := B.m k i hk hi
      have hg : (levN L k L.length).getD i 0 = (levN L k L.length)[i] := by simp [hl]
      rw [List.take_succ_eq_append_getElem hl, List.foldl_append, ← ih (by omega)]
      simp only [mxN, List.foldl_cons, List.foldl_nil]
      rw [← hg, ← hm]; omega
  have := key _ (Nat.le_refl _)
  rw [show posL L k L.length = (levN L k L.length).length from rfl, List.take_length] at this
  exact this
theorem Blt.bit (B : Blt b L) (T : TreeF b L) {k i : Nat} (h0 : 0 < k) (hk : k < 4) (hi : i < posL L k L.length) : tBit b k i = (lastB L k).getD i false := by
  unfold tBit
  rw [T.n k hk, decide_eq_true hi, Bool.true_and, T.vec B.right h0 hk]
  obtain ⟨t, ht⟩ := dat_wh (vcB L k) (posL L k L.length)
  rw [ht, bt_app _ _ _ (by rw [vc_len]; omega)]
  exact pack_bt _ _
theorem Blt.ln (B : Blt b L) (T : TreeF b L) {k : Nat} (hk : k < 4) : ∀ i, i ≤ posL L k L.length → lnS b k i = (0, 0) := by
  have R := B.right
  intro i
  induction i with
  | zero => intro _; rfl
  | succ i ih =>
    intro hi
    simp only [lnS]
    rw [ih (by omega), if_neg (by simp)]
    obtain ⟨t, ht, hf, hp⟩ := posL_ex L k L.length i (by omega)
    have hnum := B.numB hk ht hf
    rw [hp] at hnum
    have hok := okN_at (R.ok t ht) hk
    unfold lnE
    rw [hnum, if_neg (by rw [show (qAt L t).at k = (L.getD t default).at k from rfl, hok]; simp), if_neg]
    rintro ⟨h0, hb, hle⟩
    have ht0 : 0 < t := by
      rcases Nat.eq_zero_or_pos t with rfl | h
      · rw [posL_zero] at hp; omega
      · exact h
    obtain ⟨s, rfl⟩ : ∃ s, t = s + 1 := ⟨t - 1, by omega⟩
    have hprev := B.num hk (show s < L.length by omega)
    rw [hp] at hprev
    have hfk : fK L (s + 1) = k := by
      rcases hb with rfl | hb
      · omega
      · rcases Nat.eq_zero_or_pos k with rfl | hk0
        · omega
        · refine Decidable.byContradiction fun hne => ?_
          obtain ⟨j, rfl⟩ : ∃ j, k = j + 1 := ⟨k - 1, by omega⟩
          have hset := last_set L j (show 0 < s + 1 by omega) (Nat.le_of_lt ht) (.inr (by omega))
          rw [hp] at hset
          rw [B.bit T (by omega) hk (by omega), hset] at hb
          cases hb
    have hup := R.up (t := s) ht
    rw [hfk] at hup
    omega
theorem Blt.lk (B : Blt b L) (T : TreeF b L) {k x y : Nat} (hk : k < 4) (hx : lkU b k → OpenR (tB b k) x y) : lkE b k x y = (0, 0) := by
  have R := B.right
  obtain ⟨p, W, f, s, hp⟩ := T.sec k hk
  have hn := T.n k hk
  have hs := pos_small R k
  have hop : opErr (nums (tP b k)) (tN b k : Nat) (tW b k : Nat) = 0 := by
    rw [s.pk, f.pack, hn, s.w]
    exact open_pack f.z64 (d := W) (by have := f.le; omega) (by show posL L k L.length ≤ _; omega)
  have hbw : bw (mxN b k (tN b k) : Nat) = (tW b k : Nat) := by
    rw [hn, B.mx hk, s.w, ← f.w]; rfl
  unfold lkE
  rw [if_neg (by rw [hop]; simp), if_neg (by rw [hbw]; simp), if_neg, hn, B.ln T hk _ (Nat.le_refl _)]
  rintro ⟨h0, h⟩
  apply h
  have hv := B.v k h0 hk
  have ho := hx ⟨h0, hv, hop, hbw⟩
  rw [T.vec R h0 hk] at ho
  obtain ⟨rfl, rfl⟩ := open_whB (vc_len L k) (by omega) (vc_pad L k) ho
  unfold lkB
  rw [if_neg (by rw [hv]; simp), if_neg (by simp), if_neg]
  rintro ⟨hn0, hb⟩
  rw [hn] at hn0 hb
  rw [B.bit T h0 hk (by omega)] at hb
  obtain ⟨j, rfl⟩ : ∃ j, k = j + 1 := ⟨k - 1, by omega⟩
  have hL : 0 < L.length := by
    rcases Nat.eq_zero_or_pos L.length with h | h
    · rw [h, posL_zero] at hn0; omega
    · exact h
  rw [last_set L j hL (Nat.le_refl _) (bdL_end L j)] at hb
  cases hb
/-- Open takes them. -/
theorem op_of {xs ys : Nat → Nat} (R : Right L) (hb : nums b = treeB L) (hU : opU b xs ys) : opT b xs ys 4 = (0, 0) := by
  have B := blt_of R hb
  have T := tree_of R hb
  have key : ∀ k, k ≤ 4 → opT b xs ys k = (0, 0) := by
    intro k
    induction k with
    | zero => intro _; exact vw_of R hb
    | succ k ih =>
      intro hk
      simp only [opT]
      have h0 := ih (by omega)
      rw [h0, if_neg (by simp)]
      exact B.lk T (by omega) (hU k (by omega) (by rw [h0]))
  exact key 4 (Nat.le_refl _)
end
end Go.Proofs.Ytgajpekolamjbaa
