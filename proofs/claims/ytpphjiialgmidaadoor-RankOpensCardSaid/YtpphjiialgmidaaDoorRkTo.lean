/- What Open takes is what Build makes; a changed byte, a cut. Plain. -/
import Derived.Test.YtpphjiialgmidaaDoorRkOp
set_option linter.unusedVariables false
set_option linter.unusedSimpArgs false
namespace Go.Proofs.YtpphjiialgmidaaDoor
open Go Go.RowKit Go.Tk
theorem f4_dig (l : List UInt8) (o r : Nat) (hr : r < 4) : f4 l o / 256 ^ r % 256 = (l.getD (o + r) 0).toNat := by
  have h0 := UInt8.toNat_lt (l.getD o 0)
  have h1 := UInt8.toNat_lt (l.getD (o + 1) 0)
  have h2 := UInt8.toNat_lt (l.getD (o + 2) 0)
  have h3 := UInt8.toNat_lt (l.getD (o + 3) 0)
  have e0 : (256 : Nat) ^ 0 = 1 := rfl
  have e1 : (256 : Nat) ^ 1 = 256 := rfl
  have e2 : (256 : Nat) ^ 2 = 65536 := rfl
  have e3 : (256 : Nat) ^ 3 = 16777216 := rfl
  unfold f4
  have : r = 0 ∨ r = 1 ∨ r = 2 ∨ r = 3 := by omega
  rcases this with rfl | rfl | rfl | rfl
  · simp only [e0, Nat.add_zero, Nat.div_one]; omega
  · rw [e1]; omega
  · rw [e2]; omega
  · rw [e3]; omega
theorem f2_dig (l : List UInt8) (o r : Nat) (hr : r < 2) : f2 l o / 256 ^ r % 256 = (l.getD (o + r) 0).toNat := by
  have h0 := UInt8.toNat_lt (l.getD o 0)
  have h1 := UInt8.toNat_lt (l.getD (o + 1) 0)
  have e0 : (256 : Nat) ^ 0 = 1 := rfl
  have e1 : (256 : Nat) ^ 1 = 256 := rfl
  unfold f2
  have : r = 0 ∨ r = 1 := by omega
  rcases this with rfl | rfl
  · simp only [e0, Nat.add_zero, Nat.div_one]; omega
  · rw [e1]; omega
theorem u8_eq {a b : UInt8} (h : a.toNat = b.toNat) : a = b := UInt8.toNat_inj.1 h
/-- Where all numbers are right all bytes are. -/
theorem num_all {bs d : List UInt8} {N : Nat} (h : ∀ t, Vt d N t → numT bs d N t = t.2.2) (i : Nat) (h1 : grO d ≤ i) (h2 : i < enO d N) : bs.getD i 0 = (whB d N).getD i 0 := by
  obtain ⟨t, ht, a, b⟩ := wh_cover d N i h1 h2
  have hn := h t ht
  have hw := getD_nums ((wh_at ht).2 (i - posT d N t) (by omega))
  rw [show posT d N t + (i - posT d N t) = i by omega] at hw
  apply u8_eq
  rw [hw, ← hn]
  unfold numT
  by_cases h6 : t.1 = 256
  · have hs : szT t = 2 := by unfold szT; rw [if_pos h6]
    rw [if_pos h6, f2_dig _ _ _ (by omega), show posT d N t + (i - posT d N t) = i by omega]
  · have hs : szT t = 4 := by unfold szT; rw [if_neg h6]
    rw [if_neg h6, f4_dig _ _ _ (by omega), show posT d N t + (i - posT d N t) = i by omega]
theorem list_getD {l m : List UInt8} (hl : l.length = m.length) (h : ∀ i, i < l.length → l.getD i 0 = m.getD i 0) : l = m := by
  apply List.ext_getElem hl
  intro i h1 h2
  have := h i h1
  rwa [List.getD_eq_getElem?_getD, List.getD_eq_getElem?_getD, List.getElem?_eq_getElem h1, List.getElem?_eq_getElem h2] at this
theorem wh_lo (d : List UInt8) (N i : Nat) (hi : i < d.length) : (whB d N).getD (8 + i) 0 = d.getD i 0 := by
  obtain ⟨t, ht⟩ := dat_wh d N
  have : (whB d N).getD (8 + i) 0 = (datB (whB d N)).getD i 0 := by unfold datB; rw [drop_getD]
  rw [this, ht, List.getD_eq_getElem?_getD, List.getElem?_append_left hi, ← List.getD_eq_getElem?_getD]
theorem wh_hd (d : List UInt8) (N i : Nat) (hi : i < 4) (hN : N ≤ 67108864) : ((whB d N).getD i 0).toNat = N / 256 ^ i % 256 ∧ ((whB d N).getD (4 + i) 0).toNat = cntB d N / 256 ^ i % 256 := by
  obtain ⟨h1, h2⟩ := wh_head d N i hi
  rw [Nat.zero_add] at h1
  exact ⟨getD_nums h1, getD_nums h2⟩
/-- What Open takes is what Build makes. -/
theorem open_is {bs : List UInt8} {x : Nat} (h : OpenR bs x 0) : f4 bs 0 ≤ 67108864 ∧ 8 + (f4 bs 0 + 7) / 8 ≤ bs.length ∧ (daB bs (f4 bs 0)).length = (f4 bs 0 + 7) / 8 ∧ padB (daB bs (f4 bs 0)) (f4 bs 0) = true ∧ bs = whB (daB bs (f4 bs 0)) (f4 bs 0) := by
  rcases h with ⟨h0, _, h1⟩ | ⟨_, _, _, h1⟩ | ⟨_, _, _, _, h1⟩ | ⟨h0, hp, hc, f, L, hf, hL, hr⟩
  · exact absurd h1.symm h0
  · cases h1
  · cases h1
  rcases hr with ⟨_, _, h1⟩ | ⟨_, _, _, h1⟩ | ⟨rfl, hlen, _, _⟩
  · cases h1
  · cases h1
  obtain ⟨h8, hN, hm, hE, _⟩ := shF_ok h0
  have hE8 : 8 + (f4 bs 0 + 7) / 8 ≤ bs.length := by unfold oE oM oS oG at hE; omega
  have hdl := da_len bs (f4 bs 0) hE8
  refine ⟨hN, hE8, hdl, hp, ?_⟩
  obtain ⟨e1, e2, e3, e4⟩ := o_eq hdl
  have hall : ∀ t, Vt (daB bs (f4 bs 0)) (f4 bs 0) t → numT bs (daB bs (f4 bs 0)) (f4 bs 0) t = t.2.2 := by
    rcases hf with ⟨_, h⟩ | ⟨t, _, _, h, _⟩
    · exact fun t ht => h t ((hL t).2 ht)
    · omega
  have hle : bs.length = enO (daB bs (f4 bs 0)) (f4 bs 0) := by rw [hlen, ← e4, hc]
  apply list_getD
  · rw [wh_len', hle]
  intro i hi
  by_cases a : grO (daB bs (f4 bs 0)) ≤ i
  · exact num_all hall i a (by omega)
  have hg : grO (daB bs (f4 bs 0)) = 8 + (f4 bs 0 + 7) / 8 := by unfold grO; rw [hdl]
  by_cases b : 8 ≤ i
  · obtain ⟨k, rfl⟩ : ∃ k, i = 8 + k := ⟨i - 8, by omega⟩
    rw [wh_lo _ _ _ (by omega)]
    unfold daB
    rw [List.getD_eq_getElem?_getD, List.getD_eq_getElem?_getD, List.getElem?_take, if_pos (by omega), List.getElem?_drop]
  · by_cases c : i < 4
    · apply u8_eq
      rw [(wh_hd _ _ i c hN).1, f4_dig bs 0 i c, Nat.zero_add]
    · obtain ⟨k, rfl⟩ : ∃ k, i = 4 + k := ⟨i - 4, by omega⟩
      apply u8_eq
      rw [(wh_hd _ _ k (by omega) hN).2, hc, f4_dig bs 4 k (by omega)]
theorem f4_congr {l m : List UInt8} {o : Nat} (h : ∀ r, r < 4 → l.getD (o + r) 0 = m.getD (o + r) 0) : f4 l o = f4 m o := by
  unfold f4
  rw [← h 1 (by omega), ← h 2 (by omega), ← h 3 (by omega)]
  have := h 0 (by omega)
  rw [Nat.add_zero] at this
  rw [← this]
/-- Right bytes cut short. -/
theorem open_cut {d : List UInt8} {N i x y : Nat} (hl : d.length = (N + 7) / 8) (hN : N ≤ 67108864) (hi : i < enO d N) (h : OpenR ((whB d N).take i) x y) : y ≠ 0 := by
  have hlen : ((whB d N).take i).length = i := by rw [List.length_take, wh_len']; omega
  have hs : (shF ((whB d N).take i)).2 = 10 := by
    unfold shF
    by_cases h8 : i < 8
    · rw [if_pos (by omega)]
    · have hg : ∀ j, j < 8 → ((whB d N).take i).getD j 0 = (whB d N).getD j 0 := fun j hj => by
        rw [List.getD_eq_getElem?_getD, List.getElem?_take, if_pos (by omega), ← List.getD_eq_getElem?_getD]
      have h0 : f4 ((whB d N).take i) 0 = N := by rw [f4_congr (fun r hr => hg (0 + r) (by omega)), wh_n hN]
      have h4 : f4 ((whB d N).take i) 4 = cntB d N := by rw [f4_congr (fun r hr => hg (4 + r) (by omega)), wh_m hN]
      have hc := cnt_le d N
      obtain ⟨_, _, _, e4⟩ := o_eq hl
      rw [if_neg (by omega), h0, h4, if_neg (by omega), if_neg (by omega), if_pos (by omega)]
  rcases h with ⟨_, _, h1⟩ | ⟨h1, _⟩ | ⟨h1, _⟩ | ⟨h1, _⟩
  · rw [h1, hs]; decide
  · rw [hs] at h1; cases h1
  · rw [hs] at h1; cases h1
  · rw [hs] at h1; cases h1
/-- Right bytes, one of the directories changed. -/
theorem open_set {d : List UInt8} {N j x y : Nat} {u : UInt8} (hl : d.length = (N + 7) / 8) (hp : padB d N = true) (hN : N ≤ 67108864) (h1 : grO d ≤ j) (h2 : j < enO d N) (hu : u ≠ (whB d N).getD j 0) (h : OpenR ((whB d N).set j u) x y) : y ≠ 0 := by
  obtain ⟨bs, hbs⟩ : ∃ bs, bs = (whB d N).set j u := ⟨_, rfl⟩
  rw [← hbs] at h
  intro hy
  subst hy
  obtain ⟨g1, g2, g3, g4, g5⟩ := open_is h
  have hne : ∀ i, i ≠ j → bs.getD i 0 = (whB d N).getD i 0 := fun i hi => by
    rw [hbs, List.getD_eq_getElem?_getD, List.getElem?_set_ne (fun e => hi e.symm), ← List.getD_eq_getElem?_getD]
  have hg : grO d = 8 + d.length := rfl
  have h0 : f4 bs 0 = N := by rw [f4_congr (m := whB d N) (fun r hr => hne (0 + r) (by omega)), wh_n hN]
  rw [h0] at g3 g5
  have hd : daB bs N = d := by
    apply list_getD (by rw [g3, hl])
    intro i hi
    have : (daB bs N).getD i 0 = bs.getD (8 + i) 0 := by
      unfold daB
      rw [List.getD_eq_getElem?_getD, List.getD_eq_getElem?_getD, List.getElem?_take, if_pos (by omega), List.getElem?_drop]
    rw [this, hne _ (by omega), wh_lo _ _ _ (by omega)]
  rw [hd] at g5
  apply hu
  have hw : j < (whB d N).length := by rw [wh_len']; exact h2
  rw [← g5, hbs, List.getD_eq_getElem?_getD, List.getElem?_set_self hw]
  rfl
end Go.Proofs.YtpphjiialgmidaaDoor
