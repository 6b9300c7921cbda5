/- Dictionaries whose texts may be many: what lies where, by the bytes alone. Plain. -/
import Derived.Test.YtjgcmnppiaikcaaDoorDkV
import Derived.Test.YtjgcmnppiaikcaaDoorDkQ
import Derived.Test.YtjgcmnppiaikcaaDoorPkL
set_option linter.unusedVariables false
set_option linter.unusedSimpArgs false
namespace Go.Proofs.YtjgcmnppiaikcaaDoor
open Go Go.RowKit Go.Tk
/-- Texts that Build takes, and that have no more bytes than it writes. -/
structure GoodA (L : List (List UInt8)) : Prop where
  sz : ∀ i, i < L.length → (L.getD i []).length ≤ 262144
  up : ∀ i, 0 < i → i < L.length → ltB (L.getD (i - 1) []) (L.getD i []) = true
  ar : (areaN L L.length).length ≤ 67108864
  nn : L.length ≤ 4194304
theorem GoodA.at {L : List (List UInt8)} (h : GoodA L) {i : Nat} (hi : i ≤ L.length) : (areaN L i).length ≤ 67108864 := Nat.le_trans (area_mono L hi) h.ar
theorem plac_u64A {L : List (List UInt8)} (hG : GoodA L) : ∀ i, i ≤ L.length → ∀ x ∈ placN L i, 0 ≤ x ∧ x < 18446744073709551616
  | 0, _, x, hx => by simp [placN] at hx
  | i + 1, hi, x, hx => by
    have := hG.at (i := i) (by omega)
    simp only [placN] at hx
    split at hx
    · rcases List.mem_append.1 hx with hx | hx
      · exact plac_u64A hG i (by omega) x hx
      · simp at hx; omega
    · exact plac_u64A hG i (by omega) x hx
/-- What entry i says. -/
theorem ent_builtA {L : List (List UInt8)} (hG : GoodA L) {eb : List UInt8} (he : nums eb = areaN L L.length) {i : Nat} (hi : i < L.length) {last : List UInt8} (hlast : i % 16 ≠ 0 → last = L.getD (i - 1) []) :
    entP eb ((areaN L i).length : Nat) (decide (i % 16 = 0)) last = (L.getD i [], (((areaN L (i + 1)).length : Nat) : Int), 0) := by
  obtain ⟨r, hr⟩ := area_split L hi
  have hz : nums (eb.drop (areaN L i).length) = entB L i ++ r := by rw [← nums_drop, he, hr, List.drop_left]
  have hel : eb.length = (areaN L i).length + ((entB L i).length + r.length) := by rw [← nums_len eb, he, hr]; simp
  have hsz := hG.sz i hi
  by_cases h0 : i % 16 = 0
  · have hE : entB L i = vz ((L.getD i []).length : Nat) ++ nums (L.getD i []) := by unfold entB; rw [if_pos h0]
    have hz2 : nums (eb.drop (areaN L i).length) = vz ((L.getD i []).length : Nat) ++ (nums (L.getD i []) ++ r) := by rw [hz, hE, List.append_assoc]
    have hl : (areaN L (i + 1)).length = (areaN L i).length + (vz ((L.getD i []).length : Nat)).length + (L.getD i []).length := by simp only [areaN, List.length_append]; rw [hE, List.length_append, nums_len]; omega
    rw [entP_eval (c := 0) (m := (L.getD i []).length) (k1 := 0) (k2 := (vz ((L.getD i []).length : Nat)).length) (by omega) _ hz2 (by rw [decide_eq_true h0]; rfl) (by have := ups_vz ((L.getD i []).length : Nat) [] (nums (L.getD i []) ++ r) (by omega) (by omega) (i := 0) rfl; simpa using this) (Nat.zero_le _) (by omega) (by simp only [List.length_append, nums_len]; omega)]
    rw [nums_sub (s := []) hz2 rfl rfl, hl]; simp
  · have hE : entB L i = vz ((comN (L.getD (i - 1) []) (L.getD i []) : Nat) : Int) ++ (vz (((L.getD i []).length - comN (L.getD (i - 1) []) (L.getD i []) : Nat) : Int) ++ nums ((L.getD i []).drop (comN (L.getD (i - 1) []) (L.getD i [])))) := by unfold entB; rw [if_neg h0]
    have hlt := last_take (L := L) (i := i)
    have hcl := comN_le (L.getD (i - 1) []) (L.getD i [])
    rw [hlast h0]
    generalize comN (L.getD (i - 1) []) (L.getD i []) = c at hE hlt hcl
    have hz2 : nums (eb.drop (areaN L i).length) = (vz (c : Nat) ++ vz (((L.getD i []).length - c : Nat) : Int)) ++ (nums ((L.getD i []).drop c) ++ r) := by rw [hz, hE]; simp [List.append_assoc]
    have hl : (areaN L (i + 1)).length = (areaN L i).length + ((vz (c : Nat)).length + (vz (((L.getD i []).length - c : Nat) : Int)).length) + ((L.getD i []).length - c) := by simp only [areaN, List.length_append]; rw [hE]; simp only [List.length_append, nums_len, List.length_drop]; omega
    rw [entP_eval (c := c) (m := (L.getD i []).length - c) (k1 := (vz (c : Nat)).length) (k2 := (vz (c : Nat)).length + (vz (((L.getD i []).length - c : Nat) : Int)).length) (by omega) _ hz2
      (by rw [decide_eq_false h0, if_neg (by simp), List.append_assoc]; have := ups_vz (c : Nat) [] (vz (((L.getD i []).length - c : Nat) : Int) ++ (nums ((L.getD i []).drop c) ++ r)) (by omega) (by omega) (i := 0) rfl; simpa using this)
      (by rw [List.append_assoc]; exact ups_vz (((L.getD i []).length - c : Nat) : Int) (vz (c : Nat)) (nums ((L.getD i []).drop c) ++ r) (by omega) (by omega) rfl) hcl.1 (by omega) (by simp only [List.length_append, nums_len, List.length_drop]; omega)]
    rw [nums_sub (s := []) hz2 (by simp) (by simp), hlt, hl]
theorem blk_builtA {L : List (List UInt8)} (hG : GoodA L) {eb : List UInt8} (he : nums eb = areaN L L.length) : ∀ (f i : Nat) (last : List UInt8), (i % 16 ≠ 0 → last = L.getD (i - 1) []) → (i % 16 + f ≤ 16) →
    bkF eb L.length f i ((areaN L i).length : Nat) last = (List.range (min f (L.length - i))).map fun j => (i + j, L.getD (i + j) [])
  | 0, i, last, h, h2 => by simp [bkF]
  | f + 1, i, last, h, h2 => by
    by_cases hi : i < L.length
    · have hent := ent_builtA hG he hi h
      simp only [bkF, hent]
      rw [if_neg (by omega), if_neg (by simp)]
      have ih : f = 0 ∨ bkF eb L.length f (i + 1) ((areaN L (i + 1)).length : Nat) (L.getD i []) = (List.range (min f (L.length - (i + 1)))).map fun j => (i + 1 + j, L.getD (i + 1 + j) []) := by
        by_cases hf : f = 0
        · exact .inl hf
        · exact .inr (blk_builtA hG he f (i + 1) _ (fun _ => by rw [Nat.add_sub_cancel]) (by omega))
      have hm : min (f + 1) (L.length - i) = min f (L.length - (i + 1)) + 1 := by omega
      rw [hm, List.range_succ_eq_map, List.map_cons, List.map_map]
      congr 1
      rcases ih with rfl | ih
      · simp [bkF]
      · rw [ih]
        apply List.map_congr_left
        intro j _
        simp only [Function.comp]
        rw [show i + 1 + j = i + (j + 1) by omega]
    · simp only [bkF]
      rw [if_pos (by omega), show min (f + 1) (L.length - i) = 0 by omega]
      rfl
/-- Get, where the places of the blocks are right. -/
theorem get_builtA {L : List (List UInt8)} (hG : GoodA L) {eb : List UInt8} (he : nums eb = areaN L L.length) {pz : List Int} {wd : Nat} (hp : ∀ q, 16 * q < L.length → numT pz wd q wd = (areaN L (16 * q)).length) (i : Nat) (hi : i < L.length) : getF pz wd eb L.length (i : Nat) = (L.getD i [], true) := by
  unfold getF
  rw [if_neg (by omega), Int.toNat_natCast]
  have hq : 16 * (i / 16) < L.length := by omega
  have hb : blkN pz wd eb L.length (i / 16) = (List.range (min 16 (L.length - 16 * (i / 16)))).map fun j => (16 * (i / 16) + j, L.getD (16 * (i / 16) + j) []) := by
    unfold blkN
    rw [hp _ hq]
    exact blk_builtA hG he 16 (16 * (i / 16)) [] (fun h => by omega) (by omega)
  rw [hb]
  obtain ⟨q, hqq⟩ : ∃ q, i / 16 = q := ⟨_, rfl⟩
  rw [hqq] at hq ⊢
  have hl : ((List.range (min 16 (L.length - 16 * q))).map fun j => (16 * q + j, L.getD (16 * q + j) [])).length = min 16 (L.length - 16 * q) := by simp
  rw [find_at (base := 16 * q) (fun j h => by simp) ⟨i - 16 * q, by rw [hl]; omega⟩ (by simp; omega)]
  simp only [List.getElem_map, List.getElem_range]
  rw [show 16 * q + (i - 16 * q) = i by omega]
/-- A number that is read is written just so. -/
theorem ups_canon (z : List Int) (hz : ∀ x ∈ z, 0 ≤ x ∧ x < 256) (i : Nat) (hi : i ≤ z.length) (h : (upS z i 0 mxU).2.2 = 0) :
    i ≤ (upS z i 0 mxU).2.1 ∧ (upS z i 0 mxU).2.1 ≤ z.length ∧ 0 ≤ (upS z i 0 mxU).1 ∧ (upS z i 0 mxU).1 < 18446744073709551616 ∧ (z.drop i).take ((upS z i 0 mxU).2.1 - i) = vz (upS z i 0 mxU).1 := by
  have hr := ups_range z i 0 hi
  refine ⟨hr.2.1, hr.2.2, hr.1.1, hr.1.2, ?_⟩
  unfold upS at h ⊢
  rw [if_neg (by simp)] at h ⊢
  split at h
  · rename_i h1; exact absurd h h1
  rename_i h1
  split at h
  · cases h
  rename_i h2
  rw [if_neg h1, if_neg h2]
  obtain ⟨j, u, hk, hj, hv, hu, hb, ht, _⟩ := pk_vz (z.drop i) 0 0 (pk (z.drop i)).1 (pk (z.drop i)).2.1 (fun x hx => hz x (List.mem_of_mem_drop hx)) (by omega) (by omega) (by decide) (Prod.ext rfl (Prod.ext rfl (Classical.not_not.1 h1)))
  have ev : (pk (z.drop i)).1 = u := by rw [hv]; simp
  simp only
  rw [hk, ev]
  simp only [Int.toNat_natCast, Nat.zero_add]
  rw [Nat.add_sub_cancel_left]; exact ht
/-- What an entry that is right says of its bytes. -/
theorem ent_inv {eb : List UInt8} {p : Nat} {first : Bool} {last : List UInt8} (h : (entP eb (p : Nat) first last).2.2 = 0) :
    ∃ (k1 k2 c m : Nat), p ≤ eb.length ∧ k1 ≤ k2 ∧ k2 + m ≤ (nums (eb.drop p)).length ∧ c ≤ last.length ∧ c + m ≤ 262144 ∧
      (if first = true then c = 0 ∧ k1 = 0 else (nums (eb.drop p)).take k1 = vz (c : Nat) ∧ (upS (nums (eb.drop p)) 0 0 mxU).1 = (c : Nat)) ∧ ((nums (eb.drop p)).drop k1).take (k2 - k1) = vz (m : Nat) ∧
      (entP eb (p : Nat) first last).1 = last.take c ++ ((eb.drop p).drop k2).take m ∧ (entP eb (p : Nat) first last).2.1 = ((p + k2 + m : Nat) : Int) := by
  unfold entP at h ⊢
  by_cases hp : ((p : Nat) : Int) < 0 ∨ (eb.length : Int) < ((p : Nat) : Int)
  · rw [if_pos hp] at h; cases h
  rw [if_neg hp] at h ⊢
  simp only [Int.toNat_natCast] at h ⊢
  have hu : ∀ x ∈ nums (eb.drop p), 0 ≤ x ∧ x < 256 := nums_u8 _
  obtain ⟨z, hz⟩ : ∃ z, z = nums (eb.drop p) := ⟨_, rfl⟩
  rw [← hz] at h hu ⊢
  have h1 : ∃ (c k1 : Nat) (e : Int), (if first = true then ((0, 0, 0) : Int × Nat × Int) else upS z 0 0 mxU) = (((c : Nat) : Int), k1, e) ∧ k1 ≤ z.length ∧ (e = 0 → if first = true then c = 0 ∧ k1 = 0 else z.take k1 = vz (c : Nat) ∧ (upS z 0 0 mxU).1 = (c : Nat)) := by
    cases first with
    | true => exact ⟨0, 0, 0, rfl, Nat.zero_le _, fun _ => ⟨rfl, rfl⟩⟩
    | false =>
      have hr := ups_range z 0 0 (Nat.zero_le _)
      refine ⟨(upS z 0 0 mxU).1.toNat, (upS z 0 0 mxU).2.1, (upS z 0 0 mxU).2.2, ?_, hr.2.2, fun h0 => ?_⟩
      · simp only [Bool.false_eq_true, if_false]
        exact Prod.ext (by simp only; omega) rfl
      · simp only [Bool.false_eq_true, if_false]
        have hc := ups_canon z hu 0 (Nat.zero_le _) h0
        rw [List.drop_zero, Nat.sub_zero] at hc
        have e : (((upS z 0 0 mxU).1.toNat : Nat) : Int) = (upS z 0 0 mxU).1 := by omega
        rw [e]
        exact ⟨hc.2.2.2.2, rfl⟩
  obtain ⟨c, k1, e, ht1, hk1, hcan⟩ := h1
  rw [ht1] at h ⊢
  simp only at h ⊢
  split at h
  · rename_i h2; exact absurd h h2
  rename_i h2
  rw [if_neg h2]
  have hcan := hcan (Classical.not_not.1 h2)
  split at h
  · rename_i h3; exact absurd h h3
  rename_i h3
  rw [if_neg h3]
  have hc2 := ups_canon z hu k1 hk1 (Classical.not_not.1 h3)
  obtain ⟨k2, hk2⟩ : ∃ k2, k2 = (upS z k1 0 mxU).2.1 := ⟨_, rfl⟩
  obtain ⟨m, hm⟩ : ∃ m : Nat, (upS z k1 0 mxU).1 = (m : Int) := ⟨(upS z k1 0 mxU).1.toNat, by omega⟩
  rw [← hk2, hm] at hc2
  rw [← hk2, hm] at h ⊢
  split at h
  · cases h
  rename_i h4
  rw [if_neg h4]
  split at h
  · cases h
  rename_i h5
  rw [if_neg h5]
  split at h
  · cases h
  rename_i h6
  rw [if_neg h6]
  refine ⟨k1, k2, c, m, by omega, hc2.1, by omega, by omega, by omega, hcan, hc2.2.2.2.2, ?_, ?_⟩
  · simp only [Int.toNat_natCast]
  · simp only; omega
theorem drop_cons {L T : List (List UInt8)} {i : Nat} {s : List UInt8} (h : L.drop i = s :: T) : i < L.length ∧ L.getD i [] = s ∧ L.drop (i + 1) = T := by
  have hi : i < L.length := by
    apply Classical.byContradiction
    intro hc
    rw [List.drop_of_length_le (by omega)] at h; cases h
  rw [List.drop_eq_getElem_cons hi] at h
  injection h with h1 h2
  exact ⟨hi, by simp [hi, h1], h2⟩
/-- What Open's loop has seen: the bytes are those of the texts. -/
theorem opL_inv {eb : List UInt8} {pz : List Int} {wd : Nat} {L : List (List UInt8)} : ∀ (f i p : Nat) (last : List UInt8), i + f = L.length → L.drop i = txL eb pz wd L.length f i p last → p = (areaN L i).length → (nums eb).take p = areaN L i → p ≤ eb.length → (0 < i → last = L.getD (i - 1) []) →
    (opL eb pz wd L.length f i p last).1 = 0 →
    nums eb = areaN L L.length ∧ (∀ j, i ≤ j → j < L.length → (L.getD j []).length ≤ 262144 ∧ (0 < j → ltB (L.getD (j - 1) []) (L.getD j []) = true) ∧ (j % 16 = 0 → numT pz wd (j / 16) wd = (areaN L j).length))
  | 0, i, p, last, hf, hL, hp, ht, hpe, hla, h => by
    simp only [opL] at h
    split at h
    · cases h
    rename_i h1
    have hi : i = L.length := by omega
    refine ⟨?_, fun j h1 h2 => by omega⟩
    rw [← hi, ← ht, List.take_of_length_le (by rw [nums_len]; omega)]
  | f + 1, i, p, last, hf, hL, hp, ht, hpe, hla, h => by
    simp only [txL] at hL
    obtain ⟨hi, hgi, hL1⟩ := drop_cons hL
    simp only [opL] at h
    split at h
    · cases h
    rename_i h1
    split at h
    · rename_i h2; exact absurd h h2
    rename_i h2
    split at h
    · cases h
    rename_i h3
    split at h
    · cases h
    rename_i h4
    obtain ⟨k1, k2, c, m, hpe, hk12, hk2, hc, hcm, hcan, hvm, hs, hn⟩ := ent_inv (Classical.not_not.1 h2)
    rw [hgi.symm] at h h3 h4 hs
    rw [hn, Int.toNat_natCast] at h hL1
    rw [hgi.symm] at hL1
    have hdl : (nums (eb.drop p)).length = eb.length - p := by rw [nums_len, List.length_drop]
    have hsl : (L.getD i []).length = c + m := by
      rw [hs, List.length_append, List.length_take, List.length_take, List.length_drop, List.length_drop]
      omega
    have hsd : nums ((L.getD i []).drop c) = ((nums (eb.drop p)).drop k2).take m := by
      rw [hs, List.drop_append_of_le_length (by rw [List.length_take]; omega), List.drop_of_length_le (by rw [List.length_take]; omega), List.nil_append]
      rw [← nums_take, ← nums_drop]
    have hent : entB L i = (nums (eb.drop p)).take (k2 + m) := by
      have hsplit : (nums (eb.drop p)).take (k2 + m) = (nums (eb.drop p)).take k1 ++ (((nums (eb.drop p)).drop k1).take (k2 - k1) ++ ((nums (eb.drop p)).drop k2).take m) := by
        rw [← List.append_assoc, ← show (nums (eb.drop p)).take k2 = (nums (eb.drop p)).take k1 ++ ((nums (eb.drop p)).drop k1).take (k2 - k1) by
          conv => lhs; rw [show k2 = k1 + (k2 - k1) by omega]
          rw [List.take_add], ← List.take_add]
      rw [hsplit, hvm, ← hsd]
      unfold entB
      by_cases h0 : i % 16 = 0
      · rw [if_pos h0]
        rw [decide_eq_true h0, if_pos rfl] at hcan
        obtain ⟨rfl, rfl⟩ := hcan
        rw [hsl]; simp
      · rw [if_neg h0]
        rw [decide_eq_false h0, if_neg (by simp)] at hcan
        have hcc : comN (L.getD (i - 1) []) (L.getD i []) = c := by
          have h5 : (upS (nums (eb.drop p)) 0 0 mxU).1 = (comN last (L.getD i []) : Nat) := by
            apply Classical.byContradiction
            intro hc
            exact h4 ⟨h0, hc⟩
          rw [hcan.2, hla (by omega)] at h5
          omega
        rw [hcc, hcan.1, hsl, Nat.add_sub_cancel_left]
    have hA : areaN L (i + 1) = (nums eb).take (p + k2 + m) := by
      simp only [areaN]
      rw [hent, ← ht, ← nums_drop]
      conv => rhs; rw [Nat.add_assoc, List.take_add]
    have hAl : p + k2 + m = (areaN L (i + 1)).length := by rw [hA, List.length_take, nums_len]; omega
    have ih := opL_inv f (i + 1) (p + k2 + m) (L.getD i []) (by omega) hL1 hAl hA.symm (by omega) (fun _ => by rw [Nat.add_sub_cancel]) h
    refine ⟨ih.1, fun j hj hjl => ?_⟩
    by_cases e : j = i
    · subst e
      refine ⟨by omega, fun h0 => ?_, fun h0 => ?_⟩
      · rw [← hla h0]
        cases hh : ltB last (L.getD j []) with
        | true => rfl
        | false => exact absurd ⟨h0, hh⟩ h3
      · apply Classical.byContradiction
        intro hc
        exact h1 ⟨h0, by rw [hp]; exact hc⟩
    · exact ih.2 j (by omega) hjl
end Go.Proofs.YtjgcmnppiaikcaaDoor
