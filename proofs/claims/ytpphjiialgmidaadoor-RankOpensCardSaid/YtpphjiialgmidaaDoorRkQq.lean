/- The first spoilt byte: the program's and the document's place. Plain. -/
import Derived.Test.YtpphjiialgmidaaDoorRkTo
set_option linter.unusedVariables false
set_option linter.unusedSimpArgs false
namespace Go.Proofs.YtpphjiialgmidaaDoor
open Go Go.RowKit Go.Tk
def placeF (n i : Nat) : Nat := if i < oS n then oG n + (i - oG n) / 4 * 4 else if i < oM n then oS n + (i - oS n) / 2 * 2 else oM n + (i - oM n) / 4 * 4
theorem vt_small {d : List UInt8} {N : Nat} {t : Nat × Nat × Nat} (ht : Vt d N t) (hN : N ≤ 67108864) : t.2.2 < 4294967296 ∧ (t.1 = 256 → t.2.2 < 65536) := by
  obtain ⟨p, i, v⟩ := t
  simp only
  rcases ht with ⟨h1, h2⟩ | ⟨h1, h2⟩ | ⟨h1, h2⟩
  · simp only at h1 h2
    have hi := (List.getElem?_eq_some_iff.1 h2).1
    rw [gr_len] at hi
    rw [gr_get d i N (by omega)] at h2
    have := Option.some.inj h2
    have := cnt_le d (i * 2048)
    exact ⟨by omega, fun h => by omega⟩
  · simp only at h1 h2
    have hi := (List.getElem?_eq_some_iff.1 h2).1
    rw [sm_len] at hi
    rw [sm_get d i N (by omega)] at h2
    have := Option.some.inj h2
    have g2 := cnt_add d (i / 8 * 2048) (i * 256 - i / 8 * 2048)
    rw [show i / 8 * 2048 + (i * 256 - i / 8 * 2048) = i * 256 by omega] at g2
    exact ⟨by omega, fun h => by omega⟩
  · simp only at h1 h2
    have hi := (List.getElem?_eq_some_iff.1 h2).1
    rw [mk_len] at hi
    obtain ⟨u, a, _, _, e⟩ := mk_val d N i (by omega)
    rw [h2] at e
    have := Option.some.inj e
    exact ⟨by omega, fun h => by omega⟩
/-- Where a byte's number begins. -/
theorem cov_place {d : List UInt8} {N : Nat} {t : Nat × Nat × Nat} (hl : d.length = (N + 7) / 8) (ht : Vt d N t) (i : Nat) (h1 : posT d N t ≤ i) (h2 : i < posT d N t + szT t) : posT d N t = placeF N i := by
  obtain ⟨e1, e2, e3, _⟩ := o_eq hl
  unfold placeF
  rw [e1, e2, e3]
  obtain ⟨p, k, v⟩ := t
  rcases ht with ⟨g1, g2⟩ | ⟨g1, g2⟩ | ⟨g1, g2⟩
  · simp only at g1 g2
    subst g1
    have hi := (List.getElem?_eq_some_iff.1 g2).1
    rw [gr_len] at hi
    have ep : posT d N (2048, k, v) = grO d + 4 * k := rfl
    have es : szT (2048, k, v) = 4 := rfl
    rw [ep, es] at h2
    rw [ep] at h1 ⊢
    rw [if_pos (by unfold smO; omega)]
    omega
  · simp only at g1 g2
    subst g1
    have hi := (List.getElem?_eq_some_iff.1 g2).1
    rw [sm_len] at hi
    have ep : posT d N (256, k, v) = smO d N + 2 * k := rfl
    have es : szT (256, k, v) = 2 := rfl
    rw [ep, es] at h2
    rw [ep] at h1 ⊢
    rw [if_neg (by omega), if_pos (by unfold mkO; omega)]
    omega
  · simp only at g1 g2
    subst g1
    have hi := (List.getElem?_eq_some_iff.1 g2).1
    rw [mk_len] at hi
    have ep : posT d N (512, k, v) = mkO d N + 4 * k := rfl
    have es : szT (512, k, v) = 4 := rfl
    rw [ep, es] at h2
    rw [ep] at h1 ⊢
    have : smO d N ≤ mkO d N := by unfold mkO; omega
    rw [if_neg (by omega), if_neg (by omega)]
    omega
theorem num_bytes {bs d : List UInt8} {N : Nat} {t : Nat × Nat × Nat} (ht : Vt d N t) (hN : N ≤ 67108864) (h : ∀ r, r < szT t → bs.getD (posT d N t + r) 0 = (whB d N).getD (posT d N t + r) 0) : numT bs d N t = t.2.2 := by
  obtain ⟨_, w2⟩ := wh_at ht
  obtain ⟨v1, v2⟩ := vt_small ht hN
  unfold numT
  by_cases h6 : t.1 = 256
  · have hs : szT t = 2 := by unfold szT; rw [if_pos h6]
    rw [hs] at h w2
    rw [if_pos h6]
    have e : f2 bs (posT d N t) = f2 (whB d N) (posT d N t) := by
      unfold f2
      rw [← h 1 (by omega)]
      have := h 0 (by omega)
      rw [Nat.add_zero] at this
      rw [← this]
    rw [e]
    exact f2_of w2 (v2 h6)
  · have hs : szT t = 4 := by unfold szT; rw [if_neg h6]
    rw [hs] at h w2
    rw [if_neg h6, f4_congr h]
    exact f4_of w2 v1
/-- What the document's Open says. -/
def OpenQ (bs : List UInt8) (x y : Nat) : Prop :=
  ((shF bs).2 ≠ 0 ∧ x = (shF bs).1 ∧ y = (shF bs).2) ∨
  ((shF bs).2 = 0 ∧ padB (daB bs (f4 bs 0)) (f4 bs 0) = false ∧ x = oG (f4 bs 0) - 1 ∧ y = 12) ∨
  ((shF bs).2 = 0 ∧ padB (daB bs (f4 bs 0)) (f4 bs 0) = true ∧ cntB (daB bs (f4 bs 0)) (f4 bs 0) ≠ f4 bs 4 ∧ x = 4 ∧ y = 20) ∨
  ((shF bs).2 = 0 ∧ padB (daB bs (f4 bs 0)) (f4 bs 0) = true ∧ cntB (daB bs (f4 bs 0)) (f4 bs 0) = f4 bs 4 ∧
    ((∃ i, oG (f4 bs 0) ≤ i ∧ i < oE (f4 bs 0) (f4 bs 4) ∧ (∀ j, oG (f4 bs 0) ≤ j → j < i → bs.getD j 0 = (whB (daB bs (f4 bs 0)) (f4 bs 0)).getD j 0) ∧ bs.getD i 0 ≠ (whB (daB bs (f4 bs 0)) (f4 bs 0)).getD i 0 ∧ x = placeF (f4 bs 0) i ∧ y = 20) ∨
     ((∀ j, oG (f4 bs 0) ≤ j → j < oE (f4 bs 0) (f4 bs 4) → bs.getD j 0 = (whB (daB bs (f4 bs 0)) (f4 bs 0)).getD j 0) ∧
      ((oE (f4 bs 0) (f4 bs 4) < bs.length ∧ x = oE (f4 bs 0) (f4 bs 4) ∧ y = 13) ∨ (bs.length = oE (f4 bs 0) (f4 bs 4) ∧ x = 0 ∧ y = 0)))))
theorem open_same {bs : List UInt8} {x y x' y' : Nat} (h : OpenR bs x y) (h' : OpenQ bs x' y') : x = x' ∧ y = y' := by
  rcases h with ⟨a, rfl, rfl⟩ | ⟨a, b, rfl, rfl⟩ | ⟨a, b, c, rfl, rfl⟩ | ⟨a, b, c, f, L, hf, hL, hr⟩
  · rcases h' with ⟨_, rfl, rfl⟩ | ⟨a', _⟩ | ⟨a', _⟩ | ⟨a', _⟩
    · exact ⟨rfl, rfl⟩
    · exact absurd a' a
    · exact absurd a' a
    · exact absurd a' a
  · rcases h' with ⟨a', _⟩ | ⟨_, _, rfl, rfl⟩ | ⟨_, b', _⟩ | ⟨_, b', _⟩
    · exact absurd a a'
    · exact ⟨rfl, rfl⟩
    · rw [b] at b'; cases b'
    · rw [b] at b'; cases b'
  · rcases h' with ⟨a', _⟩ | ⟨_, b', _⟩ | ⟨_, _, _, rfl, rfl⟩ | ⟨_, _, c', _⟩
    · exact absurd a a'
    · rw [b] at b'; cases b'
    · exact ⟨rfl, rfl⟩
    · exact absurd c' c
  · obtain ⟨h8, hN, hm, hE, _⟩ := shF_ok a
    have hE8 : 8 + (f4 bs 0 + 7) / 8 ≤ bs.length := by unfold oE oM oS oG at hE; omega
    have hdl := da_len bs (f4 bs 0) hE8
    obtain ⟨e1, e2, e3, e4⟩ := o_eq hdl
    rcases h' with ⟨a', _⟩ | ⟨_, b', _⟩ | ⟨_, _, c', _⟩ | ⟨_, _, _, h'⟩
    · exact absurd a a'
    · rw [b] at b'; cases b'
    · exact absurd c c'
    rw [c] at e4
    rw [e1, e4] at h'
    generalize hd : daB bs (f4 bs 0) = d at *
    generalize hn : f4 bs 0 = n at *
    have hbad : ∀ t, Vt d n t → numT bs d n t ≠ t.2.2 → ∃ r, r < szT t ∧ bs.getD (posT d n t + r) 0 ≠ (whB d n).getD (posT d n t + r) 0 := by
      intro t ht hne
      apply Classical.byContradiction
      intro hno
      apply hne
      refine num_bytes ht hN (fun r hr => ?_)
      apply Classical.byContradiction
      intro hc
      exact hno ⟨r, hr, hc⟩
    rcases h' with ⟨i, i1, i2, i3, i4, rfl, rfl⟩ | ⟨hall, h'⟩
    · rcases hf with ⟨rfl, hok⟩ | ⟨t, t1, t2, rfl, t4⟩
      · exact absurd (num_all (fun t ht => hok t ((hL t).2 ht)) i i1 i2) i4
      · rcases hr with ⟨_, r1, rfl⟩ | ⟨r1, _⟩ | ⟨r1, _⟩
        · refine ⟨?_, rfl⟩
          have ht := (hL t).1 t1
          obtain ⟨u, hu, u1, u2⟩ := wh_cover d n i i1 i2
          have hun : numT bs d n u ≠ u.2.2 := by
            intro he
            apply i4
            have hw := getD_nums ((wh_at hu).2 (i - posT d n u) (by omega))
            rw [show posT d n u + (i - posT d n u) = i by omega] at hw
            apply u8_eq
            rw [hw, ← he]
            unfold numT
            by_cases h6 : u.1 = 256
            · have hs : szT u = 2 := by unfold szT; rw [if_pos h6]
              rw [if_pos h6, f2_dig _ _ _ (by omega), show posT d n u + (i - posT d n u) = i by omega]
            · have hs : szT u = 4 := by unfold szT; rw [if_neg h6]
              rw [if_neg h6, f4_dig _ _ _ (by omega), show posT d n u + (i - posT d n u) = i by omega]
          have g1 := t4 u ((hL u).2 hu) hun
          obtain ⟨r, r2, r3⟩ := hbad t ht t2
          have hge : i ≤ posT d n t + r := by
            apply Classical.byContradiction
            intro hlt
            have hgp : grO d ≤ posT d n t := by
              obtain ⟨p, k, v⟩ := t
              rcases ht with ⟨q1, _⟩ | ⟨q1, _⟩ | ⟨q1, _⟩
              · simp only at q1; subst q1; show grO d ≤ grO d + 4 * k; omega
              · simp only at q1; subst q1; show grO d ≤ smO d n + 2 * k; unfold smO; omega
              · simp only at q1; subst q1; show grO d ≤ mkO d n + 4 * k; unfold mkO smO; omega
            exact r3 (i3 _ (by omega) (by omega))
          have := cov_place hdl ht i (by omega) (by omega)
          omega
        · omega
        · omega
    · have hf1 : f = -1 := by
        rcases hf with ⟨h, _⟩ | ⟨t, t1, t2, _, _⟩
        · exact h
        · obtain ⟨r, r2, r3⟩ := hbad t ((hL t).1 t1) t2
          have ht := (hL t).1 t1
          have hgp : grO d ≤ posT d n t := by
            obtain ⟨p, k, v⟩ := t
            rcases ht with ⟨q1, _⟩ | ⟨q1, _⟩ | ⟨q1, _⟩
            · simp only at q1; subst q1; show grO d ≤ grO d + 4 * k; omega
            · simp only at q1; subst q1; show grO d ≤ smO d n + 2 * k; unfold smO; omega
            · simp only at q1; subst q1; show grO d ≤ mkO d n + 4 * k; unfold mkO smO; omega
          have := (wh_at ht).1
          exact absurd (hall _ (by omega) (by omega)) r3
      rcases hr with ⟨r1, _⟩ | ⟨_, r1, rfl, rfl⟩ | ⟨_, r1, rfl, rfl⟩
      · exact absurd hf1 r1
      · rcases h' with ⟨_, rfl, rfl⟩ | ⟨q, _⟩
        · exact ⟨by rw [e4], rfl⟩
        · omega
      · rcases h' with ⟨q, _⟩ | ⟨_, rfl, rfl⟩
        · omega
        · exact ⟨rfl, rfl⟩
end Go.Proofs.YtpphjiialgmidaaDoor
