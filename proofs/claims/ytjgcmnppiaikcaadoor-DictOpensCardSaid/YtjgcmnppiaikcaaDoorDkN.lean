/- A dictionary that Build made: where its blocks lie, what its entries say. Plain. -/
import Derived.Test.YtjgcmnppiaikcaaDoorDkF
import Derived.Test.YtjgcmnppiaikcaaDoorBitsInv
import Derived.Test.YtjgcmnppiaikcaaDoorPkQ
set_option linter.unusedVariables false
set_option linter.unusedSimpArgs false
namespace Go.Proofs.YtjgcmnppiaikcaaDoor
open Go Go.RowKit Go.Tk
theorem area_pre (L : List (List UInt8)) {i : Nat} : ∀ {n : Nat}, i ≤ n → ∃ r, areaN L n = areaN L i ++ r
  | 0, h => ⟨[], by rw [show i = 0 by omega]; simp⟩
  | n + 1, h => by
    by_cases e : i = n + 1
    · exact ⟨[], by rw [e]; simp⟩
    · obtain ⟨r, hr⟩ := area_pre L (n := n) (i := i) (by omega)
      exact ⟨r ++ entB L n, by simp only [areaN]; rw [hr, List.append_assoc]⟩
theorem area_split (L : List (List UInt8)) {i n : Nat} (h : i < n) : ∃ r, areaN L n = areaN L i ++ (entB L i ++ r) := by
  obtain ⟨r, hr⟩ := area_pre L (i := i + 1) (n := n) (by omega)
  exact ⟨r, by rw [hr]; simp only [areaN]; rw [List.append_assoc]⟩
/-- Texts that Build takes. -/
structure Good (L : List (List UInt8)) : Prop where
  sz : ∀ i, i < L.length → (L.getD i []).length ≤ 262144
  up : ∀ i, 0 < i → i < L.length → ltB (L.getD (i - 1) []) (L.getD i []) = true
  tt : tot L ≤ 2000000
theorem good_of {L : List (List UInt8)} (h : chkE L = 0) (hf : tot L ≤ 2000000) : Good L := by
  unfold chkE at h
  split at h
  · cases h
  rename_i h1
  split at h
  · rename_i h2
    refine ⟨fun i hi => ?_, fun i h0 hi => ?_, hf⟩
    · apply Classical.byContradiction
      intro hc
      exact h1 (long_yes hi (by omega))
    · cases hh : ltB (L.getD (i - 1) []) (L.getD i []) with
      | true => rfl
      | false => rw [rise_no h0 hi hh] at h2; cases h2
  · cases h
theorem ups_vz (x : Int) (pre r : List Int) (h0 : 0 ≤ x) (h1 : x < 18446744073709551616) {i : Nat} (hi : i = pre.length) : upS (pre ++ (vz x ++ r)) i 0 mxU = (x, i + (vz x).length, 0) := by
  subst hi
  unfold upS
  rw [if_neg (by simp), List.drop_left, pk_back x r h0 h1]
  simp only
  rw [if_neg (by simp), if_neg (by unfold mxU; omega)]
  simp
theorem entP_eval {eb : List UInt8} {p : Nat} {first : Bool} {last : List UInt8} {c m : Nat} {k1 k2 : Nat} (hpe : p ≤ eb.length) (z : List Int) (hz : nums (eb.drop p) = z)
    (h1 : (if first = true then ((0, 0, 0) : Int × Nat × Int) else upS z 0 0 mxU) = ((c : Int), k1, 0)) (h2 : upS z k1 0 mxU = ((m : Int), k2, 0)) (hc : c ≤ last.length) (hm : c + m ≤ 262144) (hl : k2 + m ≤ z.length) :
    entP eb (p : Nat) first last = (last.take c ++ ((eb.drop p).drop k2).take m, ((p + k2 + m : Nat) : Int), 0) := by
  unfold entP
  rw [if_neg (by omega)]
  simp only [Int.toNat_natCast, hz, h1, h2]
  rw [if_neg (by simp), if_neg (by simp), if_neg (by omega), if_neg (by omega), if_neg (by omega)]
  simp
theorem last_take {L : List (List UInt8)} {i : Nat} : (L.getD (i - 1) []).take (comN (L.getD (i - 1) []) (L.getD i [])) ++ (L.getD i []).drop (comN (L.getD (i - 1) []) (L.getD i [])) = L.getD i [] := by
  rw [comN_at _ _ _ (Nat.le_refl _), List.take_append_drop]
theorem nums_sub {eb : List UInt8} {p k m : Nat} {a s r : List Int} {t : List UInt8} (h : nums (eb.drop p) = a ++ (nums t ++ r)) (hk : k = a.length) (hm : m = t.length) : ((eb.drop p).drop k).take m = t := by
  apply nums_inj
  rw [← nums_take, ← nums_drop, h, hk, List.drop_left, hm, ← nums_len t, List.take_left]
/-- What entry i says. -/
theorem ent_built {L : List (List UInt8)} (hG : Good L) {eb : List UInt8} (he : nums eb = areaN L L.length) {i : Nat} (hi : i < L.length) {last : List UInt8} (hlast : i % 16 ≠ 0 → last = L.getD (i - 1) []) :
    entP eb ((areaN L i).length : Nat) (decide (i % 16 = 0)) last = (L.getD i [], (((areaN L (i + 1)).length : Nat) : Int), 0) := by
  obtain ⟨r, hr⟩ := area_split L hi
  have hz : nums (eb.drop (areaN L i).length) = entB L i ++ r := by rw [← nums_drop, he, hr, List.drop_left]
  have hel : eb.length = (areaN L i).length + ((entB L i).length + r.length) := by rw [← nums_len eb, he, hr]; simp
  have hsz := hG.sz i hi
  by_cases h0 : i % 16 = 0
  · have hE : entB L i = vz ((L.getD i []).length : Nat) ++ nums (L.getD i []) := by unfold entB; rw [if_pos h0]
    have hz2 : nums (eb.drop (areaN L i).length) = vz ((L.getD i []).length : Nat) ++ (nums (L.getD i []) ++ r) := by rw [hz, hE, List.append_assoc]
    have hl : (areaN L (i + 1)).length = (areaN L i).length + (vz ((L.getD i []).length : Nat)).length + (L.getD i []).length := by simp only [areaN, List.length_append]; rw [hE, List.length_append, nums_len]; omega
    rw [entP_eval (c := 0) (m := (L.getD i []).length) (k1 := 0) (k2 := (vz ((L.getD i []).length : Nat)).length) (by omega) _ hz2 (by rw [decide_eq_true h0]; rfl) (by have := ups_vz ((L.getD i []).length : Nat) [] (nums (L.getD i []) ++ r) (by omega) (by omega) (i := 0) rfl; simpa using this) (Nat.zero_le _) (by omega) (by simp only [List.length_append, nums_len]; omega)]
    rw [nums_sub (s := []) hz2 rfl rfl, hl]; simp
  · have hE : entB L i = vz ((comN (L.getD (i - 1) []) (L.getD i []) : Nat) : Int) ++ (vz (((L.getD i []).length - comN (L.getD (i - 1) []) (L.getD i []) : Nat) : Int) ++ nums ((L.getD i []).drop (comN (L.getD (i - 1) []) (L.getD i [])))) := by unfold entB; rw [if_neg h0]
    have hlt := last_take (L := L) (i := i)
    have hcl := comN_le (L.getD (i - 1) []) (L.getD i [])
    rw [hlast h0]
    generalize comN (L.getD (i - 1) []) (L.getD i []) = c at hE hlt hcl
    have hz2 : nums (eb.drop (areaN L i).length) = (vz (c : Nat) ++ vz (((L.getD i []).length - c : Nat) : Int)) ++ (nums ((L.getD i []).drop c) ++ r) := by rw [hz, hE]; simp [List.append_assoc]
    have hl : (areaN L (i + 1)).length = (areaN L i).length + ((vz (c : Nat)).length + (vz (((L.getD i []).length - c : Nat) : Int)).length) + ((L.getD i []).length - c) := by simp only [areaN, List.length_append]; rw [hE]; simp only [List.length_append, nums_len, List.length_drop]; omega
    rw [entP_eval (c := c) (m := (L.getD i []).length - c) (k1 := (vz (c : Nat)).length) (k2 := (vz (c : Nat)).length + (vz (((L.getD i []).length - c : Nat) : Int)).length) (by omega) _ hz2
      (by rw [decide_eq_false h0, if_neg (by simp), List.append_assoc]; have := ups_vz (c : Nat) [] (vz (((L.getD i []).length - c : Nat) : Int) ++ (nums ((L.getD i []).drop c) ++ r)) (by omega) (by omega) (i := 0) rfl; simpa using this)
      (by rw [List.append_assoc]; exact ups_vz (((L.getD i []).length - c : Nat) : Int) (vz (c : Nat)) (nums ((L.getD i []).drop c) ++ r) (by omega) (by omega) rfl) hcl.1 (by omega) (by simp only [List.length_append, nums_len, List.length_drop]; omega)]
    rw [nums_sub (s := []) hz2 (by simp) (by simp), hlt, hl]
theorem blk_built {L : List (List UInt8)} (hG : Good L) {eb : List UInt8} (he : nums eb = areaN L L.length) : ∀ (f i : Nat) (last : List UInt8), (i % 16 ≠ 0 → last = L.getD (i - 1) []) → (i % 16 + f ≤ 16) →
    bkF eb L.length f i ((areaN L i).length : Nat) last = (List.range (min f (L.length - i))).map fun j => (i + j, L.getD (i + j) [])
  | 0, i, last, h, h2 => by simp [bkF]
  | f + 1, i, last, h, h2 => by
    by_cases hi : i < L.length
    · have hent := ent_built hG he hi h
      simp only [bkF, hent]
      rw [if_neg (by omega), if_neg (by simp)]
      have ih : f = 0 ∨ bkF eb L.length f (i + 1) ((areaN L (i + 1)).length : Nat) (L.getD i []) = (List.range (min f (L.length - (i + 1)))).map fun j => (i + 1 + j, L.getD (i + 1 + j) []) := by
        by_cases hf : f = 0
        · exact .inl hf
        · exact .inr (blk_built hG he f (i + 1) _ (fun _ => by rw [Nat.add_sub_cancel]) (by omega))
      have hm : min (f + 1) (L.length - i) = min f (L.length - (i + 1)) + 1 := by omega
      rw [hm, List.range_succ_eq_map, List.map_cons, List.map_map]
      congr 1
      rcases ih with rfl | ih
      · simp [bkF]
      · rw [ih]
        apply List.map_congr_left
        intro j _
        simp only [Function.comp]
        rw [show i + 1 + j = i + (j + 1) by omega]
    · simp only [bkF]
      rw [if_pos (by omega), show min (f + 1) (L.length - i) = 0 by omega]
      rfl
theorem plac_len' (L : List (List UInt8)) : ∀ i, (placN L i).length = (i + 15) / 16
  | 0 => by simp [placN]
  | i + 1 => by
    have := plac_len' L i
    simp only [placN]
    split
    · simp only [List.length_append, List.length_cons, List.length_nil]; omega
    · omega
theorem plac_at (L : List (List UInt8)) : ∀ (i q : Nat), 16 * q < i → (placN L i).getD q 0 = ((areaN L (16 * q)).length : Nat)
  | 0, q, h => by omega
  | i + 1, q, h => by
    have hl := plac_len' L i
    simp only [placN]
    by_cases h0 : i % 16 = 0
    · rw [if_pos h0]
      by_cases hq : 16 * q < i
      · have := plac_at L i q hq
        simp only [List.getD_eq_getElem?_getD] at this ⊢
        rw [List.getElem?_append_left (by omega)]
        exact this
      · obtain rfl : i = 16 * q := by omega
        simp only [List.getD_eq_getElem?_getD]
        rw [List.getElem?_append_right (by omega), show q - (placN L (16 * q)).length = 0 by omega]
        rfl
    · rw [if_neg h0]
      exact plac_at L i q (by omega)
theorem area_mono (L : List (List UInt8)) {i n : Nat} (h : i ≤ n) : (areaN L i).length ≤ (areaN L n).length := by
  obtain ⟨r, hr⟩ := area_pre L h
  rw [hr]; simp
theorem width_range {L : List (List UInt8)} (hG : Good L) : 0 ≤ widthD L ∧ (widthD L).toNat ≤ 24 := by
  have h := area_small hG.sz hG.tt L.length (Nat.le_refl _)
  have h1 : bw (((areaN L L.length).length : Nat) : Int) ≤ (24 : Nat) := bw_le_of (Nat.lt_of_le_of_lt h (by decide))
  unfold widthD
  refine ⟨by unfold bw; omega, by omega⟩
theorem plac_fit {L : List (List UInt8)} (hG : Good L) (i : Nat) (hi : i < (placN L L.length).length) : bw ((placN L L.length).getD i 0) ≤ (widthD L).toNat := by
  have hl := plac_len' L L.length
  rw [plac_at L L.length i (by omega)]
  have hs := area_small hG.sz hG.tt L.length (Nat.le_refl _)
  have hm := area_mono L (i := 16 * i) (n := L.length) (by omega)
  have h0 := (width_range hG).1
  have hlt : (areaN L L.length).length < 2 ^ (widthD L).toNat := by
    have := lt_of_bw (x := (((areaN L L.length).length : Nat) : Int)) (by omega) (by omega) (d := (widthD L).toNat) (by rw [Int.toNat_of_nonneg h0]; exact Int.le_refl _)
    simpa using this
  exact bw_le_of (Nat.lt_of_le_of_lt hm hlt)
theorem pack_ok {L : List (List UInt8)} (hG : Good L) : packOk (placN L L.length) (widthD L) = true := by
  have hw := width_range hG
  unfold packOk
  rw [decide_eq_true (by omega), anyW_no (fun i hi => by have := plac_fit hG i hi; omega)]
  rfl
theorem packD_eq {L : List (List UInt8)} (hG : Good L) : packD L = packTo (placN L L.length) (widthD L).toNat (((L.length + 15) / 16 * (widthD L).toNat + 7) / 8) (placN L L.length).length := by
  unfold packD packOut
  rw [if_pos (pack_ok hG), plac_len']
theorem packD_len {L : List (List UInt8)} (hG : Good L) : (packD L).length = ((L.length + 15) / 16 * (widthD L).toNat + 7) / 8 := by
  rw [packD_eq hG, packTo_len]
theorem num_built {L : List (List UInt8)} (hG : Good L) (q : Nat) (hq : 16 * q < L.length) : numT (packD L) (widthD L).toNat q (widthD L).toNat = (areaN L (16 * q)).length := by
  have hl := plac_len' L L.length
  have hu := plac_u64 hG.sz hG.tt L.length (Nat.le_refl _)
  rw [packD_eq hG, num_pack (fun i hi => hu _ (by
    have : (placN L L.length).getD i 0 = (placN L L.length)[i] := by simp [hi]
    rw [this]; exact List.getElem_mem hi)) (by rw [hl]; omega) (plac_fit hG) q (by omega), plac_at L L.length q hq]
  simp
/-- Block q of a built dictionary. -/
theorem blkN_built {L : List (List UInt8)} (hG : Good L) {eb : List UInt8} (he : nums eb = areaN L L.length) (q : Nat) (hq : 16 * q < L.length) :
    blkN (packD L) (widthD L).toNat eb L.length q = (List.range (min 16 (L.length - 16 * q))).map fun j => (16 * q + j, L.getD (16 * q + j) []) := by
  unfold blkN
  rw [num_built hG q hq]
  exact blk_built hG he 16 (16 * q) [] (fun h => by omega) (by omega)
end Go.Proofs.YtjgcmnppiaikcaaDoor
