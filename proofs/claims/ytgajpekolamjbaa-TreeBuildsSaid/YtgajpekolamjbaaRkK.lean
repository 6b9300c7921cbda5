/- Bits packed; what right bytes answer. Plain. -/
import Derived.Test.YtgajpekolamjbaaRkG
set_option linter.unusedVariables false
set_option linter.unusedSimpArgs false
namespace Go.Tk
open Go Go.RowKit
/-- Bits as bytes, k of them set. -/
def pkB (l : List Bool) : Nat → List UInt8
  | 0 => List.replicate ((l.length + 7) / 8) 0
  | k + 1 => if l.getD k false = true then (pkB l k).set (k / 8) (UInt8.ofNat (((pkB l k).getD (k / 8) 0).toNat ||| 2 ^ (k % 8))) else pkB l k
def packB (l : List Bool) : List UInt8 := pkB l l.length
theorem pk_len (l : List Bool) : ∀ k, (pkB l k).length = (l.length + 7) / 8
  | 0 => by simp [pkB]
  | k + 1 => by
    simp only [pkB]
    split
    · rw [List.length_set, pk_len l k]
    · exact pk_len l k
theorem or_byte (y v : Nat) (hy : y < 256) (hv : v < 8) : (UInt8.ofNat (y ||| 2 ^ v)).toNat = y ||| 2 ^ v := by
  have h1 : 2 ^ v < 2 ^ 8 := Nat.pow_lt_pow_right (by decide) hv
  have h2 : y ||| 2 ^ v < 2 ^ 8 := Nat.or_lt_two_pow hy h1
  rw [UInt8.toNat_ofNat']
  exact Nat.mod_eq_of_lt h2
theorem pk_bit (l : List Bool) : ∀ k j, k ≤ l.length → btB (pkB l k) j = (decide (j < k) && l.getD j false)
  | 0, j, _ => by
    unfold btB
    simp only [pkB, List.getD_eq_getElem?_getD, List.getElem?_replicate]
    split <;> simp
  | k + 1, j, hk => by
    have ih := pk_bit l k j (by omega)
    simp only [pkB]
    by_cases hb : l.getD k false = true
    · rw [if_pos hb]
      have hlen := pk_len l k
      by_cases hq : j / 8 = k / 8
      · have e : ((pkB l k).set (k / 8) (UInt8.ofNat (((pkB l k).getD (k / 8) 0).toNat ||| 2 ^ (k % 8)))).getD (j / 8) 0 = UInt8.ofNat (((pkB l k).getD (k / 8) 0).toNat ||| 2 ^ (k % 8)) := by
          rw [hq, List.getD_eq_getElem?_getD, List.getElem?_set_self (by omega)]; rfl
        have ih' : ((pkB l k).getD (k / 8) 0).toNat.testBit (j % 8) = (decide (j < k) && l.getD j false) := by rw [← ih]; unfold btB; rw [hq]
        unfold btB
        rw [e, or_byte _ _ (UInt8.toNat_lt _) (by omega), Nat.testBit_or, ih', Nat.testBit_two_pow]
        by_cases hjk : j = k
        · subst hjk; rw [hb]; simp
        · have h8 : ¬ k % 8 = j % 8 := by omega
          have hlt : decide (j < k + 1) = decide (j < k) := by
            by_cases h : j < k
            · rw [decide_eq_true h, decide_eq_true (by omega)]
            · rw [decide_eq_false h, decide_eq_false (by omega)]
          rw [hlt, decide_eq_false h8, Bool.or_false]
      · have e : ((pkB l k).set (k / 8) (UInt8.ofNat (((pkB l k).getD (k / 8) 0).toNat ||| 2 ^ (k % 8)))).getD (j / 8) 0 = (pkB l k).getD (j / 8) 0 := by
          rw [List.getD_eq_getElem?_getD, List.getElem?_set_ne (fun h => hq h.symm), ← List.getD_eq_getElem?_getD]
        have : btB ((pkB l k).set (k / 8) (UInt8.ofNat (((pkB l k).getD (k / 8) 0).toNat ||| 2 ^ (k % 8)))) j = btB (pkB l k) j := by unfold btB; rw [e]
        rw [this, ih]
        have hlt : decide (j < k + 1) = decide (j < k) := by
          by_cases h : j < k
          · rw [decide_eq_true h, decide_eq_true (by omega)]
          · rw [decide_eq_false h, decide_eq_false (by omega)]
        rw [hlt]
    · rw [if_neg hb, ih]
      by_cases hjk : j = k
      · subst hjk
        have : l.getD j false = false := by simpa using hb
        rw [this]; simp
      · have hlt : decide (j < k + 1) = decide (j < k) := by
          by_cases h : j < k
          · rw [decide_eq_true h, decide_eq_true (by omega)]
          · rw [decide_eq_false h, decide_eq_false (by omega)]
        rw [hlt]
theorem getD_bool_out (l : List Bool) (j : Nat) (h : l.length ≤ j) : l.getD j false = false := by
  rw [List.getD_eq_getElem?_getD, List.getElem?_eq_none h]; rfl
theorem pack_len (l : List Bool) : (packB l).length = (l.length + 7) / 8 := pk_len l _
theorem pack_bt (l : List Bool) (j : Nat) : btB (packB l) j = l.getD j false := by
  unfold packB
  rw [pk_bit l _ j (Nat.le_refl _)]
  by_cases h : j < l.length
  · rw [decide_eq_true h, Bool.true_and]
  · rw [decide_eq_false h, Bool.false_and, getD_bool_out l j (by omega)]
theorem pack_pad (l : List Bool) : padB (packB l) l.length = true := by
  cases h : padB (packB l) l.length with
  | true => rfl
  | false =>
    obtain ⟨i, h1, h2, h3⟩ := pad_not (pack_len l) h
    rw [pack_bt, getD_bool_out l i h1] at h3
    cases h3
/-- Counted by a function. -/
def cF (f : Nat → Bool) : Nat → Nat
  | 0 => 0
  | i + 1 => cF f i + (if f i = true then 1 else 0)
theorem cnt_cF (d : List UInt8) (f : Nat → Bool) : ∀ i, (∀ j, j < i → btB d j = f j) → cntB d i = cF f i
  | 0, _ => rfl
  | i + 1, h => by simp only [cntB, cF]; rw [cnt_cF d f i (fun j hj => h j (by omega)), h i (by omega)]
theorem cF_congr (f g : Nat → Bool) : ∀ i, (∀ j, j < i → f j = g j) → cF f i = cF g i
  | 0, _ => rfl
  | i + 1, h => by simp only [cF]; rw [cF_congr f g i (fun j hj => h j (by omega)), h i (by omega)]
theorem cF_add (f : Nat → Bool) (n : Nat) : ∀ i, cF f (n + i) = cF f n + cF (fun j => f (n + j)) i
  | 0 => rfl
  | i + 1 => by rw [← Nat.add_assoc]; simp only [cF]; rw [cF_add f n i]; omega
theorem cnt_pack (l : List Bool) (i : Nat) : cntB (packB l) i = cF (fun j => l.getD j false) i := cnt_cF _ _ _ (fun j _ => pack_bt l j)
theorem pack_app (a b : List Bool) (i : Nat) : cntB (packB (a ++ b)) i = if i ≤ a.length then cntB (packB a) i else cntB (packB a) a.length + cntB (packB b) (i - a.length) := by
  rw [cnt_pack, cnt_pack, cnt_pack, cnt_pack]
  have h1 : ∀ j, j < a.length → (a ++ b).getD j false = a.getD j false := fun j hj => by
    rw [List.getD_eq_getElem?_getD, List.getElem?_append_left hj, ← List.getD_eq_getElem?_getD]
  have h2 : ∀ j, (a ++ b).getD (a.length + j) false = b.getD j false := fun j => by
    rw [List.getD_eq_getElem?_getD, List.getElem?_append_right (by omega), Nat.add_sub_cancel_left, ← List.getD_eq_getElem?_getD]
  split
  · exact cF_congr _ _ _ (fun j hj => h1 j (by omega))
  · obtain ⟨k, rfl⟩ : ∃ k, i = a.length + k := ⟨i - a.length, by omega⟩
    rw [cF_add, Nat.add_sub_cancel_left, cF_congr _ _ _ h1]
    congr 1
    exact cF_congr _ _ _ (fun j _ => h2 j)
theorem rank0_wh {d : List UInt8} {N : Nat} (hl : d.length = (N + 7) / 8) (hN : N ≤ 67108864) (i : Int) : rank0V (whB d N) N (cntB d N) i = ((min i.toNat N - cntB d (min i.toNat N) : Nat) : Int) := by
  unfold rank0V
  rw [rank_wh hl hN]
  have := cnt_le d (min i.toNat N)
  split
  · have : min i.toNat N = 0 := by omega
    rw [this]; rfl
  · omega
def selW (d : List UInt8) (N : Nat) (k : Int) : Int := selV (fun j => (rankV (whB d N) N (cntB d N) (j : Nat) : Nat)) N k (cntB d N)
def sel0W (d : List UInt8) (N : Nat) (k : Int) : Int := selV (fun j => rank0V (whB d N) N (cntB d N) (j : Nat)) N k ((N : Int) - (cntB d N : Nat))
theorem selW_no {d : List UInt8} {N : Nat} {k : Int} (h : k < 0 ∨ (cntB d N : Int) ≤ k) : selW d N k = -1 := by unfold selW selV; rw [if_pos h]
theorem sel0W_no {d : List UInt8} {N : Nat} {k : Int} (h : k < 0 ∨ (N : Int) - (cntB d N : Nat) ≤ k) : sel0W d N k = -1 := by unfold sel0W selV; rw [if_pos h]
theorem cnt_succ (d : List UInt8) (i : Nat) : cntB d (i + 1) = cntB d i + (if btB d i = true then 1 else 0) := rfl
theorem selW_yes {d : List UInt8} {N : Nat} (hl : d.length = (N + 7) / 8) (hN : N ≤ 67108864) (k : Nat) (hk : k < cntB d N) : ∃ v, selW d N k = (v : Nat) ∧ v < N ∧ btB d v = true ∧ cntB d v = k := by
  have hc := cnt_le d N
  have hcf : ∀ j : Nat, ((rankV (whB d N) N (cntB d N) (j : Nat) : Nat) : Int) = ((cntB d (min j N) : Nat) : Int) := fun j => by rw [rank_wh hl hN, Int.toNat_natCast]
  have hs := srch_least (fun j => (rankV (whB d N) N (cntB d N) (j : Nat) : Nat)) k (fun i j hij => by
      simp only [hcf]; have := cnt_mono d (show min i N ≤ min j N by omega); omega) N 0 (N - 1) (by omega) (by omega)
      (by simp only [hcf]; rw [show min (N - 1 + 1) N = N by omega]; omega) (fun j hj => by omega)
  have hb := srch_bd (fun j => (rankV (whB d N) N (cntB d N) (j : Nat) : Nat)) k N 0 (N - 1) (by omega)
  unfold selW selV
  rw [if_neg (by omega)]
  obtain ⟨v, hv⟩ : ∃ v, v = srchF (fun j => (rankV (whB d N) N (cntB d N) (j : Nat) : Nat)) (k : Nat) N 0 (N - 1) := ⟨_, rfl⟩
  rw [← hv] at hs hb ⊢
  simp only [hcf] at hs
  obtain ⟨h1, h2⟩ := hs
  rw [show min (v + 1) N = v + 1 by omega, cnt_succ] at h1
  have h3 : cntB d v ≤ k := by
    cases v with
    | zero => simp [cntB]
    | succ u => have := h2 u (by omega); rw [show min (u + 1) N = u + 1 by omega] at this; omega
  refine ⟨v, rfl, by omega, ?_, ?_⟩
  · cases hbv : btB d v with
    | true => rfl
    | false => rw [hbv] at h1; simp at h1; omega
  · split at h1 <;> omega
theorem selW_at {d : List UInt8} {N : Nat} (hl : d.length = (N + 7) / 8) (hN : N ≤ 67108864) (u : Nat) (hu : u < N) (hb : btB d u = true) : selW d N (cntB d u : Nat) = (u : Nat) := by
  have h1 := cnt_succ d u
  rw [if_pos hb] at h1
  have h2 := cnt_mono d (show u + 1 ≤ N by omega)
  obtain ⟨v, e, hv, hbv, hc⟩ := selW_yes hl hN (cntB d u) (by omega)
  rw [e]
  have h3 := cnt_succ d v
  rw [if_pos hbv] at h3
  by_cases hlt : u < v
  · have := cnt_mono d (show u + 1 ≤ v by omega); omega
  · by_cases hgt : v < u
    · have := cnt_mono d (show v + 1 ≤ u by omega); omega
    · omega
theorem nul_mono (d : List UInt8) {i j : Nat} (h : i ≤ j) : i - cntB d i ≤ j - cntB d j := by
  have h1 := (cnt_add d i (j - i)).2
  rw [show i + (j - i) = j by omega] at h1
  have := cnt_le d i
  have := cnt_le d j
  omega
theorem sel0W_yes {d : List UInt8} {N : Nat} (hl : d.length = (N + 7) / 8) (hN : N ≤ 67108864) (k : Nat) (hk : k < N - cntB d N) : ∃ v, sel0W d N k = (v : Nat) ∧ v < N ∧ btB d v = false ∧ v - cntB d v = k := by
  have hc := cnt_le d N
  have hcf : ∀ j : Nat, rank0V (whB d N) N (cntB d N) (j : Nat) = ((min j N - cntB d (min j N) : Nat) : Int) := fun j => by rw [rank0_wh hl hN, Int.toNat_natCast]
  have hs := srch_least (fun j => rank0V (whB d N) N (cntB d N) (j : Nat)) k (fun i j hij => by
      simp only [hcf]; have := nul_mono d (show min i N ≤ min j N by omega); omega) N 0 (N - 1) (by omega) (by omega)
      (by simp only [hcf]; rw [show min (N - 1 + 1) N = N by omega]; omega) (fun j hj => by omega)
  have hb := srch_bd (fun j => rank0V (whB d N) N (cntB d N) (j : Nat)) k N 0 (N - 1) (by omega)
  unfold sel0W selV
  rw [if_neg (by omega)]
  obtain ⟨v, hv⟩ : ∃ v, v = srchF (fun j => rank0V (whB d N) N (cntB d N) (j : Nat)) (k : Nat) N 0 (N - 1) := ⟨_, rfl⟩
  rw [← hv] at hs hb ⊢
  simp only [hcf] at hs
  obtain ⟨h1, h2⟩ := hs
  rw [show min (v + 1) N = v + 1 by omega, cnt_succ] at h1
  have hcv := cnt_le d v
  have h3 : v - cntB d v ≤ k := by
    cases v with
    | zero => simp
    | succ u => have := h2 u (by omega); rw [show min (u + 1) N = u + 1 by omega] at this; omega
  refine ⟨v, rfl, by omega, ?_, ?_⟩
  · cases hbv : btB d v with
    | false => rfl
    | true => rw [hbv] at h1; simp at h1; omega
  · split at h1 <;> omega
theorem sel0W_at {d : List UInt8} {N : Nat} (hl : d.length = (N + 7) / 8) (hN : N ≤ 67108864) (u : Nat) (hu : u < N) (hb : btB d u = false) : sel0W d N (u - cntB d u : Nat) = (u : Nat) := by
  have h1 := cnt_succ d u
  rw [hb] at h1
  simp at h1
  have hcu := cnt_le d u
  have h2 := nul_mono d (show u + 1 ≤ N by omega)
  obtain ⟨v, e, hv, hbv, hc⟩ := sel0W_yes hl hN (u - cntB d u) (by omega)
  rw [e]
  have h3 := cnt_succ d v
  rw [hbv] at h3
  simp at h3
  have hcv := cnt_le d v
  by_cases hlt : u < v
  · have := nul_mono d (show u + 1 ≤ v by omega); omega
  · by_cases hgt : v < u
    · have := nul_mono d (show v + 1 ≤ u by omega); omega
    · omega
end Go.Tk
