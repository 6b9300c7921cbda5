/- TpA RkTo, laid as one. -/
import Derived.Test.YtgajpekolamjbaaRkOp
set_option linter.unusedVariables false
set_option linter.unusedSimpArgs false
/- Levels of quads that rise: where each quad's entries stand, what their bits count. Plain. -/
namespace Go.Tk
open Go Go.RowKit
/-- How many entries of a level come from so many quads. -/
def posL (L : List Qd) (k t : Nat) : Nat := (levN L k t).length
/-- An entry of a level begins here (or all is over). -/
def bdL (L : List Qd) (k t : Nat) : Prop := t = L.length ∨ fK L t ≤ k
theorem fK_zero (L : List Qd) : fK L 0 = 0 := rfl
theorem bdL_zero (L : List Qd) (k : Nat) : bdL L k 0 := .inr (by rw [fK_zero]; omega)
theorem bdL_end (L : List Qd) (k : Nat) : bdL L k L.length := .inl rfl
theorem bdL_up {L : List Qd} {k t : Nat} (h : bdL L k t) : bdL L (k + 1) t := h.imp id fun h => by omega
theorem posL_zero (L : List Qd) (k : Nat) : posL L k 0 = 0 := rfl
theorem posL_yes {L : List Qd} {k t : Nat} (h : fK L t ≤ k) : posL L k (t + 1) = posL L k t + 1 := by
  unfold posL; simp only [levN]; rw [if_pos h]; simp
theorem posL_no {L : List Qd} {k t : Nat} (h : ¬ fK L t ≤ k) : posL L k (t + 1) = posL L k t := by
  unfold posL; simp only [levN]; rw [if_neg h]
theorem posL_step (L : List Qd) (k t : Nat) : posL L k t ≤ posL L k (t + 1) ∧ posL L k (t + 1) ≤ posL L k t + 1 := by
  by_cases h : fK L t ≤ k
  · rw [posL_yes h]; omega
  · rw [posL_no h]; omega
theorem posL_mono (L : List Qd) (k : Nat) {t u : Nat} (h : t ≤ u) : posL L k t ≤ posL L k u := by
  induction u with
  | zero => obtain rfl : t = 0 := by omega
            exact Nat.le_refl _
  | succ u ih =>
    by_cases e : t = u + 1
    · subst e; exact Nat.le_refl _
    · have := ih (by omega); have := (posL_step L k u).1; omega
theorem posL_pos (L : List Qd) (k : Nat) {t : Nat} (h : 0 < t) : 0 < posL L k t := by
  have h1 := posL_mono L k (show 1 ≤ t from h)
  have h2 : posL L k 1 = posL L k 0 + 1 := posL_yes (L := L) (k := k) (t := 0) (by rw [fK_zero]; omega)
  omega
theorem posL_up (L : List Qd) (k : Nat) : ∀ t, posL L k t ≤ posL L (k + 1) t
  | 0 => Nat.le_refl _
  | t + 1 => by
    have ih := posL_up L k t
    by_cases h : fK L t ≤ k
    · rw [posL_yes h, posL_yes (show fK L t ≤ k + 1 by omega)]; omega
    · rw [posL_no h]; have := (posL_step L (k + 1) t).1; omega
theorem posL_three {L : List Qd} (R : Right L) : ∀ t, t ≤ L.length → posL L 3 t = t
  | 0, _ => rfl
  | t + 1, h => by rw [posL_yes (by have := R.fK_lt (i := t) (by omega); omega), posL_three R t (by omega)]
theorem posL_le (L : List Qd) (k : Nat) (t : Nat) : posL L k t ≤ t := levN_len L k t
/-- Between two places of which none begins an entry. -/
theorem posL_flat (L : List Qd) (k : Nat) {t u : Nat} (h : t ≤ u) (hn : ∀ i, t < i → i < u → ¬ fK L i ≤ k) (hb : t < u) : posL L k u = posL L k (t + 1) := by
  induction u with
  | zero => omega
  | succ u ih =>
    by_cases e : t = u
    · subst e; rfl
    · rw [posL_no (hn u (by omega) (by omega))]; exact ih (by omega) (fun i h1 h2 => hn i h1 (by omega)) (by omega)
/-- The number of the entry that a quad comes from. -/
theorem levN_get (L : List Qd) (k : Nat) : ∀ (u t : Nat), t < u → (levN L k u)[posL L k (t + 1) - 1]? = some ((L.getD t default).at k)
  | 0, t, h => by omega
  | u + 1, t, h => by
    by_cases e : t = u
    · subst e
      by_cases hf : fK L t ≤ k
      · rw [posL_yes hf]
        simp only [levN]; rw [if_pos hf]
        unfold posL; simp
      · rw [posL_no hf]
        simp only [levN]; rw [if_neg hf]
        cases t with
        | zero => rw [fK_zero] at hf; omega
        | succ s =>
          rw [levN_get L k (s + 1) s (by omega)]
          have h1 : fK L (s + 1) = fk (L.getD s default) (L.getD (s + 1) default) := by unfold fK; rw [if_neg (by omega)]; rfl
          rw [h1] at hf
          rw [fk_eq (show k < fk (L.getD s default) (L.getD (s + 1) default) by omega)]
    · have ih := levN_get L k u t (by omega)
      have hlt : posL L k (t + 1) - 1 < (levN L k u).length := by
        have h1 := posL_pos L k (show 0 < t + 1 by omega)
        have h2 := posL_mono L k (show t + 1 ≤ u by omega)
        unfold posL at h1 h2 ⊢; omega
      simp only [levN]
      split
      · rw [List.getElem?_append_left hlt]; exact ih
      · exact ih
/-- Each entry begins somewhere. -/
theorem posL_ex (L : List Qd) (k : Nat) : ∀ (u i : Nat), i < posL L k u → ∃ t, t < u ∧ fK L t ≤ k ∧ posL L k t = i
  | 0, i, h => by rw [posL_zero] at h; omega
  | u + 1, i, h => by
    by_cases hi : i < posL L k u
    · obtain ⟨t, h1, h2⟩ := posL_ex L k u i hi
      exact ⟨t, by omega, h2⟩
    · by_cases hf : fK L u ≤ k
      · rw [posL_yes hf] at h
        exact ⟨u, by omega, hf, by omega⟩
      · rw [posL_no hf] at h; omega
/-- The bits of the first ones, counted. -/
def cbL (l : List Bool) (i : Nat) : Nat := cF (fun j => l.getD j false) i
theorem cb_cnt (l : List Bool) (i : Nat) : cntB (packB l) i = cbL l i := cnt_pack l i
theorem cb_ext {l m : List Bool} {i : Nat} (h : ∀ j, j < i → l.getD j false = m.getD j false) : cbL l i = cbL m i := cF_congr _ _ _ h
theorem cb_succ (l : List Bool) (i : Nat) : cbL l (i + 1) = cbL l i + (if l.getD i false = true then 1 else 0) := rfl
theorem getD_appl {l m : List Bool} {j : Nat} (h : j < l.length) : (l ++ m).getD j false = l.getD j false := by
  simp [List.getD_eq_getElem?_getD, List.getElem?_append_left h]
theorem getD_snoc (l : List Bool) (x : Bool) : (l ++ [x]).getD l.length false = x := by simp [List.getD_eq_getElem?_getD]
theorem getD_cl {l : List Bool} {j : Nat} (h : j ≠ l.length - 1) : (clB l).getD j false = l.getD j false := by
  unfold clB; rw [List.getD_eq_getElem?_getD, List.getElem?_set_ne (fun e => h e.symm), ← List.getD_eq_getElem?_getD]
theorem getD_cl_last {l : List Bool} (h : 0 < l.length) : (clB l).getD (l.length - 1) false = true := by
  unfold clB; rw [List.getD_eq_getElem?_getD, List.getElem?_set_self (by omega)]; rfl
theorem levB_posL (L : List Qd) (k t : Nat) : (levB L k t).length = posL L k t := levB_len L k t
theorem last_len (L : List Qd) (k : Nat) : (lastB L k).length = posL L k L.length := by unfold lastB; rw [clB_len, levB_posL]
/-- All that is closed behind so many quads: all entries of the level above but the last one. -/
theorem levB_cnt (L : List Qd) (k : Nat) : ∀ t, cbL (levB L (k + 1) t) (posL L (k + 1) t) = posL L k t - 1 ∧ (0 < t → (levB L (k + 1) t).getD (posL L (k + 1) t - 1) false = false)
  | 0 => ⟨rfl, fun h => by omega⟩
  | t + 1 => by
    obtain ⟨h1, h2⟩ := levB_cnt L k t
    have hl := levB_posL L (k + 1) t
    simp only [levB]
    by_cases ha : fK L t < k + 1
    · rw [if_pos ha, posL_yes (show fK L t ≤ k + 1 by omega), posL_yes (show fK L t ≤ k by omega)]
      have hlc : (clB (levB L (k + 1) t)).length = posL L (k + 1) t := by rw [clB_len, hl]
      have hlast : (clB (levB L (k + 1) t) ++ [false]).getD (posL L (k + 1) t) false = false := by rw [← hlc]; exact getD_snoc _ _
      refine ⟨?_, fun _ => by rw [Nat.add_sub_cancel]; exact hlast⟩
      rw [cb_succ, hlast, cb_ext (m := clB (levB L (k + 1) t)) (fun j hj => getD_appl (by rw [hlc]; exact hj))]
      by_cases ht : t = 0
      · subst ht; rfl
      · have p1 := posL_pos L (k + 1) (show 0 < t by omega)
        have p0 := posL_pos L k (show 0 < t by omega)
        obtain ⟨m, hm⟩ : ∃ m, posL L (k + 1) t = m + 1 := ⟨posL L (k + 1) t - 1, by omega⟩
        have e1 := getD_cl_last (l := levB L (k + 1) t) (by omega)
        rw [hl, hm, Nat.add_sub_cancel] at e1
        have h3 := h2 (by omega)
        rw [hm, Nat.add_sub_cancel] at h3
        rw [hm, cb_succ, h3] at h1
        rw [hm, cb_succ, e1, cb_ext (m := levB L (k + 1) t) (fun j hj => getD_cl (by rw [hl]; omega))]
        simp only [Bool.false_eq_true, if_false, if_true] at h1 ⊢
        omega
    · rw [if_neg ha]
      by_cases hb : fK L t = k + 1
      · rw [if_pos hb, posL_yes (show fK L t ≤ k + 1 by omega), posL_no (show ¬ fK L t ≤ k by omega)]
        have hlast : (levB L (k + 1) t ++ [false]).getD (posL L (k + 1) t) false = false := by rw [← hl]; exact getD_snoc _ _
        refine ⟨?_, fun _ => by rw [Nat.add_sub_cancel]; exact hlast⟩
        rw [cb_succ, hlast, cb_ext (m := levB L (k + 1) t) (fun j hj => getD_appl (by rw [hl]; exact hj)), h1]
        simp
      · rw [if_neg hb, posL_no (show ¬ fK L t ≤ k + 1 by omega), posL_no (show ¬ fK L t ≤ k by omega)]
        refine ⟨h1, fun _ => h2 ?_⟩
        rcases Nat.eq_zero_or_pos t with rfl | h
        · rw [fK_zero] at ha; omega
        · exact h
/-- What is behind does not change the bits, but for the last one. -/
theorem levB_keep (L : List Qd) (k : Nat) {t u : Nat} (h : t ≤ u) : ∀ j, j + 1 < posL L k t → (levB L k u).getD j false = (levB L k t).getD j false := by
  induction u with
  | zero => obtain rfl : t = 0 := by omega
            intro j _; rfl
  | succ u ih =>
    intro j hj
    by_cases e : t = u + 1
    · subst e; rfl
    · have h1 := ih (by omega) j hj
      have hm := posL_mono L k (show t ≤ u by omega)
      have hl := levB_posL L k u
      rw [← h1]
      simp only [levB]
      split
      · rw [getD_appl (by rw [clB_len]; omega), getD_cl (by omega)]
      · split
        · rw [getD_appl (by omega)]
        · rfl
theorem last_keep (L : List Qd) (k : Nat) {t : Nat} (h : t ≤ L.length) (j : Nat) (hj : j + 1 < posL L k t) : (lastB L k).getD j false = (levB L k t).getD j false := by
  have hm := posL_mono L k h
  unfold lastB
  rw [getD_cl (by rw [levB_posL]; omega)]
  exact levB_keep L k h j hj
/-- Where an entry of the level above begins, the one ahead is closed. -/
theorem last_set (L : List Qd) (k : Nat) {t : Nat} (h0 : 0 < t) (ht : t ≤ L.length) (hb : bdL L k t) : (lastB L (k + 1)).getD (posL L (k + 1) t - 1) false = true := by
  have hp := posL_pos L (k + 1) h0
  by_cases e : t = L.length
  · subst e
    have := getD_cl_last (l := levB L (k + 1) L.length) (by rw [levB_posL]; omega)
    rw [levB_posL] at this
    exact this
  · have hf : fK L t ≤ k := hb.resolve_left e
    have e1 := last_keep L (k + 1) (show t + 1 ≤ L.length by omega) (posL L (k + 1) t - 1) (by rw [posL_yes (show fK L t ≤ k + 1 by omega)]; omega)
    rw [e1]
    simp only [levB]
    rw [if_pos (by omega)]
    have hl := levB_posL L (k + 1) t
    rw [getD_appl (by rw [clB_len]; omega)]
    have := getD_cl_last (l := levB L (k + 1) t) (by omega)
    rw [hl] at this
    exact this
/-- The rank of an entry is the entry above it. -/
theorem last_rank (L : List Qd) (k : Nat) {t : Nat} (ht : t < L.length) : cntB (packB (lastB L (k + 1))) (posL L (k + 1) (t + 1) - 1) = posL L k (t + 1) - 1 := by
  obtain ⟨h1, h2⟩ := levB_cnt L k (t + 1)
  have h2 := h2 (by omega)
  have hp := posL_pos L (k + 1) (show 0 < t + 1 by omega)
  rw [cb_cnt, cb_ext (m := levB L (k + 1) (t + 1)) (fun j hj => last_keep L (k + 1) (by omega) j (by omega))]
  obtain ⟨m, hm⟩ : ∃ m, posL L (k + 1) (t + 1) = m + 1 := ⟨posL L (k + 1) (t + 1) - 1, by omega⟩
  rw [hm, Nat.add_sub_cancel] at h2 ⊢
  rw [hm, cb_succ, h2] at h1
  simpa using h1
theorem last_all (L : List Qd) (k : Nat) : cntB (packB (lastB L (k + 1))) (posL L (k + 1) L.length) = posL L k L.length := by
  rcases Nat.eq_zero_or_pos L.length with h | h
  · rw [h]; rfl
  · obtain ⟨n, hn⟩ : ∃ n, L.length = n + 1 := ⟨L.length - 1, by omega⟩
    have h1 := last_rank L k (show n < L.length by omega)
    have h2 := last_set L k h (Nat.le_refl _) (bdL_end L k)
    have hp := posL_pos L (k + 1) h
    have hp0 := posL_pos L k h
    rw [← hn] at h1
    obtain ⟨m, hm⟩ : ∃ m, posL L (k + 1) L.length = m + 1 := ⟨posL L (k + 1) L.length - 1, by omega⟩
    rw [hm, Nat.add_sub_cancel] at h1 h2
    rw [hm, cb_cnt, cb_succ, ← cb_cnt, h1, h2]
    simp only [if_true]; omega
end Go.Tk
/- What Open takes is what Build makes; a changed byte, a cut. Plain. -/
namespace Go.Proofs.Ytgajpekolamjbaa
open Go Go.RowKit Go.Tk
theorem f4_dig (l : List UInt8) (o r : Nat) (hr : r < 4) : f4 l o / 256 ^ r % 256 = (l.getD (o + r) 0).toNat := by
  have h0 := UInt8.toNat_lt (l.getD o 0)
  have h1 := UInt8.toNat_lt (l.getD (o + 1) 0)
  have h2 := UInt8.toNat_lt (l.getD (o + 2) 0)
  have h3 := UInt8.toNat_lt (l.getD (o + 3) 0)
  have e0 : (256 : Nat) ^ 0 = 1 := rfl
  have e1 : (256 : Nat) ^ 1 = 256 := rfl
  have e2 : (256 : Nat) ^ 2 = 65536 := rfl
  have e3 : (256 : Nat) ^ 3 = 16777216 := rfl
  unfold f4
  have : r = 0 ∨ r = 1 ∨ r = 2 ∨ r = 3 := by omega
  rcases this with rfl | rfl | rfl | rfl
  · simp only [e0, Nat.add_zero, Nat.div_one]; omega
  · rw [e1]; omega
  · rw [e2]; omega
  · rw [e3]; omega
theorem f2_dig (l : List UInt8) (o r : Nat) (hr : r < 2) : f2 l o / 256 ^ r % 256 = (l.getD (o + r) 0).toNat := by
  have h0 := UInt8.toNat_lt (l.getD o 0)
  have h1 := UInt8.toNat_lt (l.getD (o + 1) 0)
  have e0 : (256 : Nat) ^ 0 = 1 := rfl
  have e1 : (256 : Nat) ^ 1 = 256 := rfl
  unfold f2
  have : r = 0 ∨ r = 1 := by omega
  rcases this with rfl | rfl
  · simp only [e0, Nat.add_zero, Nat.div_one]; omega
  · rw [e1]; omega
theorem u8_eq {a b : UInt8} (h : a.toNat = b.toNat) : a = b := UInt8.toNat_inj.1 h
/-- Where all numbers are right all bytes are. -/
theorem num_all {bs d : List UInt8} {N : Nat} (h : ∀ t, Vt d N t → numT bs d N t = t.2.2) (i : Nat) (h1 : grO d ≤ i) (h2 : i < enO d N) : bs.getD i 0 = (whB d N).getD i 0 := by
  obtain ⟨t, ht, a, b⟩ := wh_cover d N i h1 h2
  have hn := h t ht
  have hw := getD_nums ((wh_at ht).2 (i - posT d N t) (by omega))
  rw [show posT d N t + (i - posT d N t) = i by omega] at hw
  apply u8_eq
  rw [hw, ← hn]
  unfold numT
  by_cases h6 : t.1 = 256
  · have hs : szT t = 2 := by unfold szT; rw [if_pos h6]
    rw [if_pos h6, f2_dig _ _ _ (by omega), show posT d N t + (i - posT d N t) = i by omega]
  · have hs : szT t = 4 := by unfold szT; rw [if_neg h6]
    rw [if_neg h6, f4_dig _ _ _ (by omega), show posT d N t + (i - posT d N t) = i by omega]
theorem list_getD {l m : List UInt8} (hl : l.length = m.length) (h : ∀ i, i < l.length → l.getD i 0 = m.getD i 0) : l = m := by
  apply List.ext_getElem hl
  intro i h1 h2
  have := h i h1
  rwa [List.getD_eq_getElem?_getD, List.getD_eq_getElem?_getD, List.getElem?_eq_getElem h1, List.getElem?_eq_getElem h2] at this
theorem wh_lo (d : List UInt8) (N i : Nat) (hi : i < d.length) : (whB d N).getD (8 + i) 0 = d.getD i 0 := by
  obtain ⟨t, ht⟩ := dat_wh d N
  have : (whB d N).getD (8 + i) 0 = (datB (whB d N)).getD i 0 := by unfold datB; rw [drop_getD]
  rw [this, ht, List.getD_eq_getElem?_getD, List.getElem?_append_left hi, ← List.getD_eq_getElem?_getD]
theorem wh_hd (d : List UInt8) (N i : Nat) (hi : i < 4) (hN : N ≤ 67108864) : ((whB d N).getD i 0).toNat = N / 256 ^ i % 256 ∧ ((whB d N).getD (4 + i) 0).toNat = cntB d N / 256 ^ i % 256 := by
  obtain ⟨h1, h2⟩ := wh_head d N i hi
  rw [Nat.zero_add] at h1
  exact ⟨getD_nums h1, getD_nums h2⟩
/-- What Open takes is what Build makes. -/
theorem open_is {bs : List UInt8} {x : Nat} (h : OpenR bs x 0) : f4 bs 0 ≤ 67108864 ∧ 8 + (f4 bs 0 + 7) / 8 ≤ bs.length ∧ (daB bs (f4 bs 0)).length = (f4 bs 0 + 7) / 8 ∧ padB (daB bs (f4 bs 0)) (f4 bs 0) = true ∧ bs = whB (daB bs (f4 bs 0)) (f4 bs 0) := by
  rcases h with ⟨h0, _, h1⟩ | ⟨_, _, _, h1⟩ | ⟨_, _, _, _, h1⟩ | ⟨h0, hp, hc, f, L, hf, hL, hr⟩
  · exact absurd h1.symm h0
  · cases h1
  · cases h1
  rcases hr with ⟨_, _, h1⟩ | ⟨_, _, _, h1⟩ | ⟨rfl, hlen, _, _⟩
  · cases h1
  · cases h1
  obtain ⟨h8, hN, hm, hE, _⟩ := shF_ok h0
  have hE8 : 8 + (f4 bs 0 + 7) / 8 ≤ bs.length := by unfold oE oM oS oG at hE; omega
  have hdl := da_len bs (f4 bs 0) hE8
  refine ⟨hN, hE8, hdl, hp, ?_⟩
  obtain ⟨e1, e2, e3, e4⟩ := o_eq hdl
  have hall : ∀ t, Vt (daB bs (f4 bs 0)) (f4 bs 0) t → numT bs (daB bs (f4 bs 0)) (f4 bs 0) t = t.2.2 := by
    rcases hf with ⟨_, h⟩ | ⟨t, _, _, h, _⟩
    · exact fun t ht => h t ((hL t).2 ht)
    · omega
  have hle : bs.length = enO (daB bs (f4 bs 0)) (f4 bs 0) := by rw [hlen, ← e4, hc]
  apply list_getD
  · rw [wh_len', hle]
  intro i hi
  by_cases a : grO (daB bs (f4 bs 0)) ≤ i
  · exact num_all hall i a (by omega)
  have hg : grO (daB bs (f4 bs 0)) = 8 + (f4 bs 0 + 7) / 8 := by unfold grO; rw [hdl]
  by_cases b : 8 ≤ i
  · obtain ⟨k, rfl⟩ : ∃ k, i = 8 + k := ⟨i - 8, by omega⟩
    rw [wh_lo _ _ _ (by omega)]
    unfold daB
    rw [List.getD_eq_getElem?_getD, List.getD_eq_getElem?_getD, List.getElem?_take, if_pos (by omega), List.getElem?_drop]
  · by_cases c : i < 4
    · apply u8_eq
      rw [(wh_hd _ _ i c hN).1, f4_dig bs 0 i c, Nat.zero_add]
    · obtain ⟨k, rfl⟩ : ∃ k, i = 4 + k := ⟨i - 4, by omega⟩
      apply u8_eq
      rw [(wh_hd _ _ k (by omega) hN).2, hc, f4_dig bs 4 k (by omega)]
theorem f4_congr {l m : List UInt8} {o : Nat} (h : ∀ r, r < 4 → l.getD (o + r) 0 = m.getD (o + r) 0) : f4 l o = f4 m o := by
  unfold f4
  rw [← h 1 (by omega), ← h 2 (by omega), ← h 3 (by omega)]
  have := h 0 (by omega)
  rw [Nat.add_zero] at this
  rw [← this]
/-- Right bytes cut short. -/
theorem open_cut {d : List UInt8} {N i x y : Nat} (hl : d.length = (N + 7) / 8) (hN : N ≤ 67108864) (hi : i < enO d N) (h : OpenR ((whB d N).take i) x y) : y ≠ 0 := by
  have hlen : ((whB d N).take i).length = i := by rw [List.length_take, wh_len']; omega
  have hs : (shF ((whB d N).take i)).2 = 10 := by
    unfold shF
    by_cases h8 : i < 8
    · rw [if_pos (by omega)]
    · have hg : ∀ j, j < 8 → ((whB d N).take i).getD j 0 = (whB d N).getD j 0 := fun j hj => by
        rw [List.getD_eq_getElem?_getD, List.getElem?_take, if_pos (by omega), ← List.getD_eq_getElem?_getD]
      have h0 : f4 ((whB d N).take i) 0 = N := by rw [f4_congr (fun r hr => hg (0 + r) (by omega)), wh_n hN]
      have h4 : f4 ((whB d N).take i) 4 = cntB d N := by rw [f4_congr (fun r hr => hg (4 + r) (by omega)), wh_m hN]
      have hc := cnt_le d N
      obtain ⟨_, _, _, e4⟩ := o_eq hl
      rw [if_neg (by omega), h0, h4, if_neg (by omega), if_neg (by omega), if_pos (by omega)]
  rcases h with ⟨_, _, h1⟩ | ⟨h1, _⟩ | ⟨h1, _⟩ | ⟨h1, _⟩
  · rw [h1, hs]; decide
  · rw [hs] at h1; cases h1
  · rw [hs] at h1; cases h1
  · rw [hs] at h1; cases h1
/-- Right bytes, one of the directories changed. -/
theorem open_set {d : List UInt8} {N j x y : Nat} {u : UInt8} (hl : d.length = (N + 7) / 8) (hp : padB d N = true) (hN : N ≤ 67108864) (h1 : grO d ≤ j) (h2 : j < enO d N) (hu : u ≠ (whB d N).getD j 0) (h : OpenR ((whB d N).set j u) x y) : y ≠ 0 := by
  obtain ⟨bs, hbs⟩ : ∃ bs, bs = (whB d N).set j u := ⟨_, rfl⟩
  rw [← hbs] at h
  intro hy
  subst hy
  obtain ⟨g1, g2, g3, g4, g5⟩ := open_is h
  have hne : ∀ i, i ≠ j → bs.getD i 0 = (whB d N).getD i 0 := fun i hi => by
    rw [hbs, List.getD_eq_getElem?_getD, List.getElem?_set_ne (fun e => hi e.symm), ← List.getD_eq_getElem?_getD]
  have hg : grO d = 8 + d.length := rfl
  have h0 : f4 bs 0 = N := by rw [f4_congr (m := whB d N) (fun r hr => hne (0 + r) (by omega)), wh_n hN]
  rw [h0] at g3 g5
  have hd : daB bs N = d := by
    apply list_getD (by rw [g3, hl])
    intro i hi
    have : (daB bs N).getD i 0 = bs.getD (8 + i) 0 := by
      unfold daB
      rw [List.getD_eq_getElem?_getD, List.getD_eq_getElem?_getD, List.getElem?_take, if_pos (by omega), List.getElem?_drop]
    rw [this, hne _ (by omega), wh_lo _ _ _ (by omega)]
  rw [hd] at g5
  apply hu
  have hw : j < (whB d N).length := by rw [wh_len']; exact h2
  rw [← g5, hbs, List.getD_eq_getElem?_getD, List.getElem?_set_self hw]
  rfl
end Go.Proofs.Ytgajpekolamjbaa
