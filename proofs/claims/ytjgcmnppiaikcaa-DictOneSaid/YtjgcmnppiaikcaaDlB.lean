/- One form: what Open takes is what Build makes of its texts; a beginning of it, and it with a byte behind, are refused. Plain. -/
import Derived.Test.YtjgcmnppiaikcaaDlA
set_option linter.unusedVariables false
set_option linter.unusedSimpArgs false
namespace Go.Proofs.Ytjgcmnppiaikcaa
open Go Go.RowKit Go.Tk
theorem txL_len (eb : List UInt8) (pz : List Int) (wd n : Nat) : ∀ (f i p : Nat) (last : List UInt8), (txL eb pz wd n f i p last).length = f
  | 0, _, _, _ => rfl
  | f + 1, i, p, last => by simp only [txL, List.length_cons]; rw [txL_len]
/-- What Open takes. -/
structure OneD (b : List UInt8) : Prop where
  good : GoodA (txD b)
  n : (txD b).length = hdN b
  e : nums (hdE b) = areaN (txD b) (txD b).length
  p : ∀ q, 16 * q < (txD b).length → numT (nums (hdP b)) (hdW b) q (hdW b) = (areaN (txD b) (16 * q)).length
  bs : nums b = dictB (txD b)
  len : hdN b ≤ b.length
theorem ent_pos (L : List (List UInt8)) (i : Nat) : 1 ≤ (entB L i).length := by
  unfold entB
  split
  · have := vz_len ((L.getD i []).length : Nat); simp only [List.length_append]; omega
  · have := vz_len ((comN (L.getD (i - 1) []) (L.getD i []) : Nat) : Int); simp only [List.length_append]; omega
theorem area_ge (L : List (List UInt8)) : ∀ i, i ≤ (areaN L i).length
  | 0 => Nat.zero_le _
  | i + 1 => by
    have := area_ge L i
    have := ent_pos L i
    simp only [areaN, List.length_append]; omega
theorem u8_of {zs : List Int} (h : ∀ x ∈ zs, 0 ≤ x ∧ x < 256) : U8 zs := fun i hi => by
  have := h zs[i] (List.getElem_mem hi)
  simpa [hi] using this
theorem one_of {b : List UInt8} (h : (opE b).1 = 0) : OneD b := by
  have h0 : (shE b).1 = 0 := by
    apply Classical.byContradiction
    intro hc
    unfold opE at h
    rw [if_pos hc] at h
    exact hc h
  have hk := (sh_ok h0).1
  unfold opE at h
  rw [if_neg (by rw [h0]; simp)] at h
  split at h
  · rename_i h1; exact absurd h h1
  rename_i h1
  have h1 := Classical.not_not.1 h1
  split at h
  · rename_i h2; exact absurd h h2
  rename_i h2
  have h2 := Classical.not_not.1 h2
  clear h
  have hl : (txD b).length = hdN b := txL_len _ _ _ _ _ _ _ _
  obtain ⟨L, hL⟩ : ∃ L, L = txD b := ⟨_, rfl⟩
  have hinv := opL_inv (eb := hdE b) (pz := nums (hdP b)) (wd := hdW b) (L := txD b) (hdN b) 0 0 [] (by omega) (by rw [hl]; rfl) rfl rfl (Nat.zero_le _) (fun h => by omega) (by rw [hl]; exact h2)
  rw [← hL] at hl hinv
  have hA := area_ge L L.length
  have h4 : hd4 b ≤ b.length := by have := hk.len; omega
  have hel : (hdE b).length = hdS b := by unfold hdE; rw [List.length_take, List.length_drop]; have := hk.len; omega
  have hS : (areaN L L.length).length = hdS b := by rw [← hinv.1, nums_len, hel]
  have hG : GoodA L := ⟨fun i hi => (hinv.2 i (Nat.zero_le _) hi).1, fun i h0 hi => (hinv.2 i (Nat.zero_le _) hi).2.1 h0, by rw [hS]; exact hk.bS, by rw [hl]; exact hk.aN⟩
  have hp : ∀ q, 16 * q < L.length → numT (nums (hdP b)) (hdW b) q (hdW b) = (areaN L (16 * q)).length := fun q hq => by
    have := (hinv.2 (16 * q) (Nat.zero_le _) hq).2.2 (by omega)
    rwa [show 16 * q / 16 = q by omega] at this
  -- the head
  have ca := ups_canon (nums b) (nums_u8 b) 0 (Nat.zero_le _) hk.a0
  have cb := ups_canon (nums b) (nums_u8 b) (hdA b).2.1 (by rw [nums_len]; exact (hdA_rg b).2) hk.b0
  have ea : (nums b).take (hdA b).2.1 = vz (L.length : Nat) := by
    have h3 := ca.2.2.2.2
    rw [List.drop_zero, Nat.sub_zero] at h3
    have h5 : (upS (nums b) 0 0 mxU).1 = (L.length : Nat) := by rw [hl]; exact hk.aV
    rw [h5] at h3
    exact h3
  have eb : ((nums b).drop (hdA b).2.1).take (hd3 b - (hdA b).2.1) = vz ((areaN L L.length).length : Nat) := by
    have h3 := cb.2.2.2.2
    have h5 : (upS (nums b) (hdA b).2.1 0 mxU).1 = ((areaN L L.length).length : Nat) := by rw [hS]; exact hk.bV
    rw [h5] at h3
    exact h3
  have hW : widthD L = (hdW b : Nat) := by unfold widthD; rw [hS, ← hk.bV]; exact hk.wV
  obtain ⟨hd64, hn31, hpl, hpad⟩ := opErr_zero h1
  rw [nums_len] at hpl
  have hPl : (hdP b).length = ((hdN b + 15) / 16 * hdW b + 7) / 8 := hpl
  have h43 : hd4 b = hd3 b + (hdP b).length := by unfold hd4; rw [hPl]
  have hzl : (placN L L.length).length = (hdN b + 15) / 16 := by rw [plac_len', hl]
  have hP : nums (hdP b) = packD L := by
    unfold packD
    rw [hW]
    by_cases hn0 : L.length = 0
    · have hn00 : hdN b = 0 := by omega
      have e1 : (hdP b).length = 0 := by rw [hPl, hn00]; simp
      have e2 : placN L L.length = [] := List.length_eq_zero_iff.1 (by rw [hzl, hn00])
      have e3 : hdP b = [] := List.length_eq_zero_iff.1 e1
      rw [e2, e3]
      unfold packOut
      split <;> simp [packTo, nums]
    · have hw0 : 0 < hdW b := by
        have h6 := hk.wV
        have h7 := lt_of_bw (x := (hdB b).1) (by rw [hk.bV]; omega) (by rw [hk.bV]; have := hk.bS; omega) (d := hdW b) (by rw [h6]; exact Int.le_refl _)
        rw [hk.bV, Int.toNat_natCast] at h7
        apply Classical.byContradiction
        intro hc
        rw [show hdW b = 0 by omega] at h7
        simp at h7
        omega
      have hat : ∀ q, q < (hdN b + 15) / 16 → (placN L L.length).getD q 0 = (numT (nums (hdP b)) (hdW b) q (hdW b) : Nat) := fun q hq => by
        rw [plac_at L L.length q (by omega), hp q (by omega)]
      have hok : packOk (placN L L.length) ((hdW b : Nat) : Int) = true := by
        unfold packOk
        rw [decide_eq_true (by omega), anyW_no (fun q hq => by
          rw [hat q (by omega)]
          exact bw_le_of (numT_lt _ _ _ _))]
        rfl
      unfold packOut
      rw [if_pos hok, Int.toNat_natCast]
      have hu8 : U8 (nums (hdP b)) := u8_of (nums_u8 _)
      have := pack_num hu8 hw0 hd64 (by rw [nums_len]; exact hpl) ((pad_iff hu8 (by rw [nums_len]; exact hpl)).1 hpad) (placN L L.length) hzl hat
      rw [nums_len, hPl] at this
      rw [hzl]
      exact this.symm
  rw [hL] at hG hl hinv hp hP ea eb hA hS
  refine ⟨hG, hl, hinv.1, hp, ?_, ?_⟩
  · have e1 : (hdA b).2.1 ≤ hd3 b := hk.ab
    have s1 : nums b = (nums b).take (hdA b).2.1 ++ (((nums b).drop (hdA b).2.1).take (hd3 b - (hdA b).2.1) ++ ((nums b).drop (hd3 b)).take (hd4 b - hd3 b) ++ (nums b).drop (hd4 b)) := by
      have t1 : (nums b).drop (hdA b).2.1 = ((nums b).drop (hdA b).2.1).take (hd3 b - (hdA b).2.1) ++ (nums b).drop (hd3 b) := by
        conv => lhs; rw [← List.take_append_drop (hd3 b - (hdA b).2.1) ((nums b).drop (hdA b).2.1)]
        rw [List.drop_drop, show (hdA b).2.1 + (hd3 b - (hdA b).2.1) = hd3 b by omega]
      have t2 : (nums b).drop (hd3 b) = ((nums b).drop (hd3 b)).take (hd4 b - hd3 b) ++ (nums b).drop (hd4 b) := by
        conv => lhs; rw [← List.take_append_drop (hd4 b - hd3 b) ((nums b).drop (hd3 b))]
        rw [List.drop_drop, show hd3 b + (hd4 b - hd3 b) = hd4 b by omega]
      rw [List.append_assoc, ← t2, ← t1, List.take_append_drop]
    rw [s1, ea, eb]
    unfold dictB
    rw [List.append_assoc]
    congr 1
    congr 1
    congr 1
    · rw [← hP]; unfold hdP; rw [← nums_take, ← nums_drop]
    · rw [← hinv.1]; unfold hdE
      rw [← nums_take, ← nums_drop, List.take_of_length_le (by rw [List.length_drop, nums_len]; have := hk.len; omega)]
  · have := hk.len; omega
theorem one_build {b : List UInt8} (h : OneD b) : chkE (txD b) = 0 ∧ buildE (txD b) (b.length : Nat) = 0 ∧ buildO (txD b) (b.length : Nat) = nums b := by
  have hc : chkE (txD b) = 0 := by
    unfold chkE
    rw [long_no h.good.sz, rise_yes h.good.up]
    rfl
  have hl : (dictB (txD b)).length = b.length := by rw [← h.bs, nums_len]
  have he : buildE (txD b) (b.length : Nat) = 0 := by unfold buildE; rw [if_neg (by rw [hc]; simp), if_neg (by omega)]
  exact ⟨hc, he, by unfold buildO; rw [if_pos he, ← h.bs]⟩
/-- A number behind whose bytes nothing, or something else, stands. -/
theorem pkF_take : ∀ (l : List Int) (j i : Nat) (n : Int), (pkF (l.take j) i n).2.2 = 0 → pkF (l.take j) i n = pkF l i n
  | [], j, i, n, h => by simp
  | b :: r, 0, i, n, h => by simp [pkF] at h
  | b :: r, j + 1, i, n, h => by
    simp only [List.take_succ_cons, pkF] at h ⊢
    split
    · rfl
    · rename_i h1
      rw [if_neg h1] at h
      split
      · rfl
      · rename_i h2
        rw [if_neg h2] at h
        exact pkF_take r j (i + 1) _ h
theorem ups_take (z : List Int) (j i : Nat) (h : (upS (z.take j) i 0 mxU).2.2 = 0) : upS (z.take j) i 0 mxU = upS z i 0 mxU := by
  have hd : (z.take j).drop i = (z.drop i).take (j - i) := by rw [List.drop_take]
  unfold upS at h ⊢
  rw [hd] at h ⊢
  rw [if_neg (show ¬ ¬ (0 : Int) = 0 by simp)] at h
  have key : (pk ((z.drop i).take (j - i))).2.2 = 0 → pk ((z.drop i).take (j - i)) = pk (z.drop i) := pkF_take _ _ 0 0
  split at h
  · rename_i h1; exact absurd h h1
  rename_i h1
  have k2 := key (Classical.not_not.1 h1)
  rw [k2]
theorem hd_take {x : List UInt8} (j : Nat) (ha : (hdA (x.take j)).2.2 = 0) (hb : (hdB (x.take j)).2.2 = 0) : hdA (x.take j) = hdA x ∧ hdB (x.take j) = hdB x := by
  have e1 : hdA (x.take j) = hdA x := by
    unfold hdA at ha ⊢
    rw [← nums_take] at ha ⊢
    exact ups_take _ _ _ ha
  refine ⟨e1, ?_⟩
  unfold hdB at hb ⊢
  rw [e1, ← nums_take] at hb ⊢
  exact ups_take _ _ _ hb
theorem sh_same {x y : List UInt8} (hx : ShOk x) (ha : hdA y = hdA x) (hb : hdB y = hdB x) (hl : y.length ≠ x.length) : (shE y).1 ≠ 0 := by
  have e4 : hd4 y + hdS y = hd4 x + hdS x := by unfold hd4 hd3 hdS hdN hdW; rw [ha, hb]
  have := hx.len
  unfold shE
  rw [ha, hb, if_neg (by rw [hx.a0]; simp), if_neg (by rw [hx.aV]; have := hx.aN; omega), if_neg (by rw [hx.b0]; simp), if_neg (by rw [hx.bV]; have := hx.bS; omega), e4]
  by_cases h : y.length < hd4 x + hdS x
  · rw [if_pos h]; simp
  · rw [if_neg h, if_pos (by omega)]; simp
/-- A beginning of a dictionary is none. -/
theorem sh_cut {x : List UInt8} (hx : ShOk x) (i : Nat) (hi : i < x.length) : (shE (x.take i)).1 ≠ 0 := by
  by_cases ha : (hdA (x.take i)).2.2 = 0
  · by_cases hb : (hdB (x.take i)).2.2 = 0
    · obtain ⟨e1, e2⟩ := hd_take i ha hb
      exact sh_same hx e1 e2 (by rw [List.length_take]; omega)
    · unfold shE
      rw [if_neg (by rw [ha]; simp)]
      split
      · simp
      · exact hb
  · unfold shE
    rw [if_pos ha]; exact ha
/-- A dictionary with a byte behind is none. -/
theorem sh_more {x : List UInt8} (hx : ShOk x) (c : UInt8) : (shE (x ++ [c])).1 ≠ 0 := by
  have et : (x ++ [c]).take x.length = x := by rw [List.take_left]
  obtain ⟨e1, e2⟩ := hd_take (x := x ++ [c]) x.length (by rw [et]; exact hx.a0) (by rw [et]; exact hx.b0)
  rw [et] at e1 e2
  exact sh_same hx e1.symm e2.symm (by simp)
theorem opE_of_sh {b : List UInt8} (h : (shE b).1 ≠ 0) : (opE b).1 ≠ 0 := by
  unfold opE
  rw [if_pos h]; exact h
end Go.Proofs.Ytjgcmnppiaikcaa
