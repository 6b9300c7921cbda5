/- RkTo RkQq, laid as one. -/
import Derived.Test.YtgajpekolamjbaaDoorTrP
set_option linter.unusedVariables false
set_option linter.unusedSimpArgs false
/- What Open takes is what Build makes; a changed byte, a cut. Plain. -/
namespace Go.Proofs.YtgajpekolamjbaaDoor
open Go Go.RowKit Go.Tk
theorem f4_dig (l : List UInt8) (o r : Nat) (hr : r < 4) : f4 l o / 256 ^ r % 256 = (l.getD (o + r) 0).toNat := by
  have h0 := UInt8.toNat_lt (l.getD o 0)
  have h1 := UInt8.toNat_lt (l.getD (o + 1) 0)
  have h2 := UInt8.toNat_lt (l.getD (o + 2) 0)
  have h3 := UInt8.toNat_lt (l.getD (o + 3) 0)
  have e0 : (256 : Nat) ^ 0 = 1 := rfl
  have e1 : (256 : Nat) ^ 1 = 256 := rfl
  have e2 : (256 : Nat) ^ 2 = 65536 := rfl
  have e3 : (256 : Nat) ^ 3 = 16777216 := rfl
  unfold f4
  have : r = 0 ∨ r = 1 ∨ r = 2 ∨ r = 3 := by omega
  rcases this with rfl | rfl | rfl | rfl
  · simp only [e0, Nat.add_zero, Nat.div_one]; omega
  · rw [e1]; omega
  · rw [e2]; omega
  · rw [e3]; omega
theorem f2_dig (l : List UInt8) (o r : Nat) (hr : r < 2) : f2 l o / 256 ^ r % 256 = (l.getD (o + r) 0).toNat := by
  have h0 := UInt8.toNat_lt (l.getD o 0)
  have h1 := UInt8.toNat_lt (l.getD (o + 1) 0)
  have e0 : (256 : Nat) ^ 0 = 1 := rfl
  have e1 : (256 : Nat) ^ 1 = 256 := rfl
  unfold f2
  have : r = 0 ∨ r = 1 := by omega
  rcases this with rfl | rfl
  · simp only [e0, Nat.add_zero, Nat.div_one]; omega
  · rw [e1]; omega
theorem u8_eq {a b : UInt8} (h : a.toNat = b.toNat) : a = b := UInt8.toNat_inj.1 h
/-- Where all numbers are right all bytes are. -/
theorem num_all {bs d : List UInt8} {N : Nat} (h : ∀ t, Vt d N t → numT bs d N t = t.2.2) (i : Nat) (h1 : grO d ≤ i) (h2 : i < enO d N) : bs.getD i 0 = (whB d N).getD i 0 := by
  obtain ⟨t, ht, a, b⟩ := wh_cover d N i h1 h2
  have hn := h t ht
  have hw := getD_nums ((wh_at ht).2 (i - posT d N t) (by omega))
  rw [show posT d N t + (i - posT d N t) = i by omega] at hw
  apply u8_eq
  rw [hw, ← hn]
  unfold numT
  by_cases h6 : t.1 = 256
  · have hs : szT t = 2 := by unfold szT; rw [if_pos h6]
    rw [if_pos h6, f2_dig _ _ _ (by omega), show posT d N t + (i - posT d N t) = i by omega]
  · have hs : szT t = 4 := by unfold szT; rw [if_neg h6]
    rw [if_neg h6, f4_dig _ _ _ (by omega), show posT d N t + (i - posT d N t) = i by omega]
theorem list_getD {l m : List UInt8} (hl : l.length = m.length) (h : ∀ i, i < l.length → l.getD i 0 = m.getD i 0) : l = m := by
  apply List.ext_getElem hl
  intro i h1 h2
  have := h i h1
  rwa [List.getD_eq_getElem?_getD, List.getD_eq_getElem?_getD, List.getElem?_eq_getElem h1, List.getElem?_eq_getElem h2] at this
theorem wh_lo (d : List UInt8) (N i : Nat) (hi : i < d.length) : (whB d N).getD (8 + i) 0 = d.getD i 0 := by
  obtain ⟨t, ht⟩ := dat_wh d N
  have : (whB d N).getD (8 + i) 0 = (datB (whB d N)).getD i 0 := by unfold datB; rw [drop_getD]
  rw [this, ht, List.getD_eq_getElem?_getD, List.getElem?_append_left hi, ← List.getD_eq_getElem?_getD]
theorem wh_hd (d : List UInt8) (N i : Nat) (hi : i < 4) (hN : N ≤ 67108864) : ((whB d N).getD i 0).toNat = N / 256 ^ i % 256 ∧ ((whB d N).getD (4 + i) 0).toNat = cntB d N / 256 ^ i % 256 := by
  obtain ⟨h1, h2⟩ := wh_head d N i hi
  rw [Nat.zero_add] at h1
  exact ⟨getD_nums h1, getD_nums h2⟩
/-- What Open takes is what Build makes. -/
theorem open_is {bs : List UInt8} {x : Nat} (h : OpenR bs x 0) : f4 bs 0 ≤ 67108864 ∧ 8 + (f4 bs 0 + 7) / 8 ≤ bs.length ∧ (daB bs (f4 bs 0)).length = (f4 bs 0 + 7) / 8 ∧ padB (daB bs (f4 bs 0)) (f4 bs 0) = true ∧ bs = whB (daB bs (f4 bs 0)) (f4 bs 0) := by
  rcases h with ⟨h0, _, h1⟩ | ⟨_, _, _, h1⟩ | ⟨_, _, _, _, h1⟩ | ⟨h0, hp, hc, f, L, hf, hL, hr⟩
  · exact absurd h1.symm h0
  · cases h1
  · cases h1
  rcases hr with ⟨_, _, h1⟩ | ⟨_, _, _, h1⟩ | ⟨rfl, hlen, _, _⟩
  · cases h1
  · cases h1
  obtain ⟨h8, hN, hm, hE, _⟩ := shF_ok h0
  have hE8 : 8 + (f4 bs 0 + 7) / 8 ≤ bs.length := by unfold oE oM oS oG at hE; omega
  have hdl := da_len bs (f4 bs 0) hE8
  refine ⟨hN, hE8, hdl, hp, ?_⟩
  obtain ⟨e1, e2, e3, e4⟩ := o_eq hdl
  have hall : ∀ t, Vt (daB bs (f4 bs 0)) (f4 bs 0) t → numT bs (daB bs (f4 bs 0)) (f4 bs 0) t = t.2.2 := by
    rcases hf with ⟨_, h⟩ | ⟨t, _, _, h, _⟩
    · exact fun t ht => h t ((hL t).2 ht)
    · omega
  have hle : bs.length = enO (daB bs (f4 bs 0)) (f4 bs 0) := by rw [hlen, ← e4, hc]
  apply list_getD
  · rw [wh_len', hle]
  intro i hi
  by_cases a : grO (daB bs (f4 bs 0)) ≤ i
  · exact num_all hall i a (by omega)
  have hg : grO (daB bs (f4 bs 0)) = 8 + (f4 bs 0 + 7) / 8 := by unfold grO; rw [hdl]
  by_cases b : 8 ≤ i
  · obtain ⟨k, rfl⟩ : ∃ k, i = 8 + k := ⟨i - 8, by omega⟩
    rw [wh_lo _ _ _ (by omega)]
    unfold daB
    rw [List.getD_eq_getElem?_getD, List.getD_eq_getElem?_getD, List.getElem?_take, if_pos (by omega), List.getElem?_drop]
  · by_cases c : i < 4
    · apply u8_eq
      rw [(wh_hd _ _ i c hN).1, f4_dig bs 0 i c, Nat.zero_add]
    · obtain ⟨k, rfl⟩ : ∃ k, i = 4 + k := ⟨i - 4, by omega⟩
      apply u8_eq
      rw [(wh_hd _ _ k (by omega) hN).2, hc, f4_dig bs 4 k (by omega)]
theorem f4_congr {l m : List UInt8} {o : Nat} (h : ∀ r, r < 4 → l.getD (o + r) 0 = m.getD (o + r) 0) : f4 l o = f4 m o := by
  unfold f4
  rw [← h 1 (by omega), ← h 2 (by omega), ← h 3 (by omega)]
  have := h 0 (by omega)
  rw [Nat.add_zero] at this
  rw [← this]
/-- Right bytes cut short. -/
theorem open_cut {d : List UInt8} {N i x y : Nat} (hl : d.length = (N + 7) / 8) (hN : N ≤ 67108864) (hi : i < enO d N) (h : OpenR ((whB d N).take i) x y) : y ≠ 0 := by
  have hlen : ((whB d N).take i).length = i := by rw [List.length_take, wh_len']; omega
  have hs : (shF ((whB d N).take i)).2 = 10 := by
    unfold shF
    by_cases h8 : i < 8
    · rw [if_pos (by omega)]
    · have hg : ∀ j, j < 8 → ((whB d N).take i).getD j 0 = (whB d N).getD j 0 := fun j hj => by
        rw [List.getD_eq_getElem?_getD, List.getElem?_take, if_pos (by omega), ← List.getD_eq_getElem?_getD]
      have h0 : f4 ((whB d N).take i) 0 = N := by rw [f4_congr (fun r hr => hg (0 + r) (by omega)), wh_n hN]
      have h4 : f4 ((whB d N).take i) 4 = cntB d N := by rw [f4_congr (fun r hr => hg (4 + r) (by omega)), wh_m hN]
      have hc := cnt_le d N
      obtain ⟨_, _, _, e4⟩ := o_eq hl
      rw [if_neg (by omega), h0, h4, if_neg (by omega), if_neg (by omega), if_pos (by omega)]
  rcases h with ⟨_, _, h1⟩ | ⟨h1, _⟩ | ⟨h1, _⟩ | ⟨h1, _⟩
  · rw [h1, hs]; decide
  · rw [hs] at h1; cases h1
  · rw [hs] at h1; cases h1
  · rw [hs] at h1; cases h1
/-- Right bytes, one of the directories changed. -/
theorem open_set {d : List UInt8} {N j x y : Nat} {u : UInt8} (hl : d.length = (N + 7) / 8) (hp : padB d N = true) (hN : N ≤ 67108864) (h1 : grO d ≤ j) (h2 : j < enO d N) (hu : u ≠ (whB d N).getD j 0) (h : OpenR ((whB d N).set j u) x y) : y ≠ 0 := by
  obtain ⟨bs, hbs⟩ : ∃ bs, bs = (whB d N).set j u := ⟨_, rfl⟩
  rw [← hbs] at h
  intro hy
  subst hy
  obtain ⟨g1, g2, g3, g4, g5⟩ := open_is h
  have hne : ∀ i, i ≠ j → bs.getD i 0 = (whB d N).getD i 0 := fun i hi => by
    rw [hbs, List.getD_eq_getElem?_getD, List.getElem?_set_ne (fun e => hi e.symm), ← List.getD_eq_getElem?_getD]
  have hg : grO d = 8 + d.length := rfl
  have h0 : f4 bs 0 = N := by rw [f4_congr (m := whB d N) (fun r hr => hne (0 + r) (by omega)), wh_n hN]
  rw [h0] at g3 g5
  have hd : daB bs N = d := by
    apply list_getD (by rw [g3, hl])
    intro i hi
    have : (daB bs N).getD i 0 = bs.getD (8 + i) 0 := by
      unfold daB
      rw [List.getD_eq_getElem?_getD, List.getD_eq_getElem?_getD, List.getElem?_take, if_pos (by omega), List.getElem?_drop]
    rw [this, hne _ (by omega), wh_lo _ _ _ (by omega)]
  rw [hd] at g5
  apply hu
  have hw : j < (whB d N).length := by rw [wh_len']; exact h2
  rw [← g5, hbs, List.getD_eq_getElem?_getD, List.getElem?_set_self hw]
  rfl
end Go.Proofs.YtgajpekolamjbaaDoor
/- The first spoilt byte: the program's and the document's place. Plain. -/
namespace Go.Proofs.YtgajpekolamjbaaDoor
open Go Go.RowKit Go.Tk
def placeF (n i : Nat) : Nat := if i < oS n then oG n + (i - oG n) / 4 * 4 else if i < oM n then oS n + (i - oS n) / 2 * 2 else oM n + (i - oM n) / 4 * 4
theorem vt_small {d : List UInt8} {N : Nat} {t : Nat × Nat × Nat} (ht : Vt d N t) (hN : N ≤ 67108864) : t.2.2 < 4294967296 ∧ (t.1 = 256 → t.2.2 < 65536) := by
  obtain ⟨p, i, v⟩ := t
  simp only
  rcases ht with ⟨h1, h2⟩ | ⟨h1, h2⟩ | ⟨h1, h2⟩
  · simp only at h1 h2
    have hi := (List.getElem?_eq_some_iff.1 h2).1
    rw [gr_len] at hi
    rw [gr_get d i N (by omega)] at h2
    have := Option.some.inj h2
    have := cnt_le d (i * 2048)
    exact ⟨by omega, fun h => by omega⟩
  · simp only at h1 h2
    have hi := (List.getElem?_eq_some_iff.1 h2).1
    rw [sm_len] at hi
    rw [sm_get d i N (by omega)] at h2
    have := Option.some.inj h2
    have g2 := cnt_add d (i / 8 * 2048) (i * 256 - i / 8 * 2048)
    rw [show i / 8 * 2048 + (i * 256 - i / 8 * 2048) = i * 256 by omega] at g2
    exact ⟨by omega, fun h => by omega⟩
  · simp only at h1 h2
    have hi := (List.getElem?_eq_some_iff.1 h2).1
    rw [mk_len] at hi
    obtain ⟨u, a, _, _, e⟩ := mk_val d N i (by omega)
    rw [h2] at e
    have := Option.some.inj e
    exact ⟨by omega, fun h => by omega⟩
/-- Where a byte's number begins. -/
theorem cov_place {d : List UInt8} {N : Nat} {t : Nat × Nat × Nat} (hl : d.length = (N + 7) / 8) (ht : Vt d N t) (i : Nat) (h1 : posT d N t ≤ i) (h2 : i < posT d N t + szT t) : posT d N t = placeF N i := by
  obtain ⟨e1, e2, e3, _⟩ := o_eq hl
  unfold placeF
  rw [e1, e2, e3]
  obtain ⟨p, k, v⟩ := t
  rcases ht with ⟨g1, g2⟩ | ⟨g1, g2⟩ | ⟨g1, g2⟩
  · simp only at g1 g2
    subst g1
    have hi := (List.getElem?_eq_some_iff.1 g2).1
    rw [gr_len] at hi
    have ep : posT d N (2048, k, v) = grO d + 4 * k := rfl
    have es : szT (2048, k, v) = 4 := rfl
    rw [ep, es] at h2
    rw [ep] at h1 ⊢
    rw [if_pos (by unfold smO; omega)]
    omega
  · simp only at g1 g2
    subst g1
    have hi := (List.getElem?_eq_some_iff.1 g2).1
    rw [sm_len] at hi
    have ep : posT d N (256, k, v) = smO d N + 2 * k := rfl
    have es : szT (256, k, v) = 2 := rfl
    rw [ep, es] at h2
    rw [ep] at h1 ⊢
    rw [if_neg (by omega), if_pos (by unfold mkO; omega)]
    omega
  · simp only at g1 g2
    subst g1
    have hi := (List.getElem?_eq_some_iff.1 g2).1
    rw [mk_len] at hi
    have ep : posT d N (512, k, v) = mkO d N + 4 * k := rfl
    have es : szT (512, k, v) = 4 := rfl
    rw [ep, es] at h2
    rw [ep] at h1 ⊢
    have : smO d N ≤ mkO d N := by unfold mkO; omega
    rw [if_neg (by omega), if_neg (by omega)]
    omega
theorem num_bytes {bs d : List UInt8} {N : Nat} {t : Nat × Nat × Nat} (ht : Vt d N t) (hN : N ≤ 67108864) (h : ∀ r, r < szT t → bs.getD (posT d N t + r) 0 = (whB d N).getD (posT d N t + r) 0) : numT bs d N t = t.2.2 := by
  obtain ⟨_, w2⟩ := wh_at ht
  obtain ⟨v1, v2⟩ := vt_small ht hN
  unfold numT
  by_cases h6 : t.1 = 256
  · have hs : szT t = 2 := by unfold szT; rw [if_pos h6]
    rw [hs] at h w2
    rw [if_pos h6]
    have e : f2 bs (posT d N t) = f2 (whB d N) (posT d N t) := by
      unfold f2
      rw [← h 1 (by omega)]
      have := h 0 (by omega)
      rw [Nat.add_zero] at this
      rw [← this]
    rw [e]
    exact f2_of w2 (v2 h6)
  · have hs : szT t = 4 := by unfold szT; rw [if_neg h6]
    rw [hs] at h w2
    rw [if_neg h6, f4_congr h]
    exact f4_of w2 v1
/-- What the document's Open says. -/
def OpenQ (bs : List UInt8) (x y : Nat) : Prop :=
  ((shF bs).2 ≠ 0 ∧ x = (shF bs).1 ∧ y = (shF bs).2) ∨
  ((shF bs).2 = 0 ∧ padB (daB bs (f4 bs 0)) (f4 bs 0) = false ∧ x = oG (f4 bs 0) - 1 ∧ y = 12) ∨
  ((shF bs).2 = 0 ∧ padB (daB bs (f4 bs 0)) (f4 bs 0) = true ∧ cntB (daB bs (f4 bs 0)) (f4 bs 0) ≠ f4 bs 4 ∧ x = 4 ∧ y = 20) ∨
  ((shF bs).2 = 0 ∧ padB (daB bs (f4 bs 0)) (f4 bs 0) = true ∧ cntB (daB bs (f4 bs 0)) (f4 bs 0) = f4 bs 4 ∧
    ((∃ i, oG (f4 bs 0) ≤ i ∧ i < oE (f4 bs 0) (f4 bs 4) ∧ (∀ j, oG (f4 bs 0) ≤ j → j < i → bs.getD j 0 = (whB (daB bs (f4 bs 0)) (f4 bs 0)).getD j 0) ∧ bs.getD i 0 ≠ (whB (daB bs (f4 bs 0)) (f4 bs 0)).getD i 0 ∧ x = placeF (f4 bs 0) i ∧ y = 20) ∨
     ((∀ j, oG (f4 bs 0) ≤ j → j < oE (f4 bs 0) (f4 bs 4) → bs.getD j 0 = (whB (daB bs (f4 bs 0)) (f4 bs 0)).getD j 0) ∧
      ((oE (f4 bs 0) (f4 bs 4) < bs.length ∧ x = oE (f4 bs 0) (f4 bs 4) ∧ y = 13) ∨ (bs.length = oE (f4 bs 0) (f4 bs 4) ∧ x = 0 ∧ y = 0)))))
theorem open_same {bs : List UInt8} {x y x' y' : Nat} (h : OpenR bs x y) (h' : OpenQ bs x' y') : x = x' ∧ y = y' := by
  rcases h with ⟨a, rfl, rfl⟩ | ⟨a, b, rfl, rfl⟩ | ⟨a, b, c, rfl, rfl⟩ | ⟨a, b, c, f, L, hf, hL, hr⟩
  · rcases h' with ⟨_, rfl, rfl⟩ | ⟨a', _⟩ | ⟨a', _⟩ | ⟨a', _⟩
    · exact ⟨rfl, rfl⟩
    · exact absurd a' a
    · exact absurd a' a
    · exact absurd a' a
  · rcases h' with ⟨a', _⟩ | ⟨_, _, rfl, rfl⟩ | ⟨_, b', _⟩ | ⟨_, b', _⟩
    · exact absurd a a'
    · exact ⟨rfl, rfl⟩
    · rw [b] at b'; cases b'
    · rw [b] at b'; cases b'
  · rcases h' with ⟨a', _⟩ | ⟨_, b', _⟩ | ⟨_, _, _, rfl, rfl⟩ | ⟨_, _, c', _⟩
    · exact absurd a a'
    · rw [b] at b'; cases b'
    · exact ⟨rfl, rfl⟩
    · exact absurd c' c
  · obtain ⟨h8, hN, hm, hE, _⟩ := shF_ok a
    have hE8 : 8 + (f4 bs 0 + 7) / 8 ≤ bs.length := by unfold oE oM oS oG at hE; omega
    have hdl := da_len bs (f4 bs 0) hE8
    obtain ⟨e1, e2, e3, e4⟩ := o_eq hdl
    rcases h' with ⟨a', _⟩ | ⟨_, b', _⟩ | ⟨_, _, c', _⟩ | ⟨_, _, _, h'⟩
    · exact absurd a a'
    · rw [b] at b'; cases b'
    · exact absurd c c'
    rw [c] at e4
    rw [e1, e4] at h'
    generalize hd : daB bs (f4 bs 0) = d at *
    generalize hn : f4 bs 0 = n at *
    have hbad : ∀ t, Vt d n t → numT bs d n t ≠ t.2.2 → ∃ r, r < szT t ∧ bs.getD (posT d n t + r) 0 ≠ (whB d n).getD (posT d n t + r) 0 := by
      intro t ht hne
      apply Classical.byContradiction
      intro hno
      apply hne
      refine num_bytes ht hN (fun r hr => ?_)
      apply Classical.byContradiction
      intro hc
      exact hno ⟨r, hr, hc⟩
    rcases h' with ⟨i, i1, i2, i3, i4, rfl, rfl⟩ | ⟨hall, h'⟩
    · rcases hf with ⟨rfl, hok⟩ | ⟨t, t1, t2, rfl, t4⟩
      · exact absurd (num_all (fun t ht => hok t ((hL t).2 ht)) i i1 i2) i4
      · rcases hr with ⟨_, r1, rfl⟩ | ⟨r1, _⟩ | ⟨r1, _⟩
        · refine ⟨?_, rfl⟩
          have ht := (hL t).1 t1
          obtain ⟨u, hu, u1, u2⟩ := wh_cover d n i i1 i2
          have hun : numT bs d n u ≠ u.2.2 := by
            intro he
            apply i4
            have hw := getD_nums ((wh_at hu).2 (i - posT d n u) (by omega))
            rw [show posT d n u + (i - posT d n u) = i by omega] at hw
            apply u8_eq
            rw [hw, ← he]
            unfold numT
            by_cases h6 : u.1 = 256
            · have hs : szT u = 2 := by unfold szT; rw [if_pos h6]
              rw [if_pos h6, f2_dig _ _ _ (by omega), show posT d n u + (i - posT d n u) = i by omega]
            · have hs : szT u = 4 := by unfold szT; rw [if_neg h6]
              rw [if_neg h6, f4_dig _ _ _ (by omega), show posT d n u + (i - posT d n u) = i by omega]
          have g1 := t4 u ((hL u).2 hu) hun
          obtain ⟨r, r2, r3⟩ := hbad t ht t2
          have hge : i ≤ posT d n t + r := by
            apply Classical.byContradiction
            intro hlt
            have hgp : grO d ≤ posT d n t := by
              obtain ⟨p, k, v⟩ := t
              rcases ht with ⟨q1, _⟩ | ⟨q1, _⟩ | ⟨q1, _⟩
              · simp only at q1; subst q1; show grO d ≤ grO d + 4 * k; omega
              · simp only at q1; subst q1; show grO d ≤ smO d n + 2 * k; unfold smO; omega
              · simp only at q1; subst q1; show grO d ≤ mkO d n + 4 * k; unfold mkO smO; omega
            exact r3 (i3 _ (by omega) (by omega))
          have := cov_place hdl ht i (by omega) (by omega)
          omega
        · omega
        · omega
    · have hf1 : f = -1 := by
        rcases hf with ⟨h, _⟩ | ⟨t, t1, t2, _, _⟩
        · exact h
        · obtain ⟨r, r2, r3⟩ := hbad t ((hL t).1 t1) t2
          have ht := (hL t).1 t1
          have hgp : grO d ≤ posT d n t := by
            obtain ⟨p, k, v⟩ := t
            rcases ht with ⟨q1, _⟩ | ⟨q1, _⟩ | ⟨q1, _⟩
            · simp only at q1; subst q1; show grO d ≤ grO d + 4 * k; omega
            · simp only at q1; subst q1; show grO d ≤ smO d n + 2 * k; unfold smO; omega
            · simp only at q1; subst q1; show grO d ≤ mkO d n + 4 * k; unfold mkO smO; omega
          have := (wh_at ht).1
          exact absurd (hall _ (by omega) (by omega)) r3
      rcases hr with ⟨r1, _⟩ | ⟨_, r1, rfl, rfl⟩ | ⟨_, r1, rfl, rfl⟩
      · exact absurd hf1 r1
      · rcases h' with ⟨_, rfl, rfl⟩ | ⟨q, _⟩
        · exact ⟨by rw [e4], rfl⟩
        · omega
      · rcases h' with ⟨q, _⟩ | ⟨_, rfl, rfl⟩
        · omega
        · exact ⟨rfl, rfl⟩
end Go.Proofs.YtgajpekolamjbaaDoor
