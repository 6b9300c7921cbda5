/- RkK TrP TpA RkRf RkOp RkTo, laid as one. -/
import Derived.Test.YtgajpekolamjbaaRkY
import Derived.Test.YtgajpekolamjbaaBitsPackD
import Derived.Test.YtgajpekolamjbaaBitsNum
import Derived.Test.YtgajpekolamjbaaRkBd
set_option linter.unusedVariables false
set_option linter.unusedSimpArgs false
/- Bits packed; what right bytes answer. Plain. -/
namespace Go.Tk
open Go Go.RowKit
/-- Bits as bytes, k of them set. -/
def pkB (l : List Bool) : Nat → List UInt8
  | 0 => List.replicate ((l.length + 7) / 8) 0
  | k + 1 => if l.getD k false = true then (pkB l k).set (k / 8) (UInt8.ofNat (((pkB l k).getD (k / 8) 0).toNat ||| 2 ^ (k % 8))) else pkB l k
def packB (l : List Bool) : List UInt8 := pkB l l.length
theorem pk_len (l : List Bool) : ∀ k, (pkB l k).length = (l.length + 7) / 8
  | 0 => by simp [pkB]
  | k + 1 => by
    simp only [pkB]
    split
    · rw [List.length_set, pk_len l k]
    · exact pk_len l k
theorem or_byte (y v : Nat) (hy : y < 256) (hv : v < 8) : (UInt8.ofNat (y ||| 2 ^ v)).toNat = y ||| 2 ^ v := by
  have h1 : 2 ^ v < 2 ^ 8 := Nat.pow_lt_pow_right (by decide) hv
  have h2 : y ||| 2 ^ v < 2 ^ 8 := Nat.or_lt_two_pow hy h1
  rw [UInt8.toNat_ofNat']
  exact Nat.mod_eq_of_lt h2
theorem pk_bit (l : List Bool) : ∀ k j, k ≤ l.length → btB (pkB l k) j = (decide (j < k) && l.getD j false)
  | 0, j, _ => by
    unfold btB
    simp only [pkB, List.getD_eq_getElem?_getD, List.getElem?_replicate]
    split <;> simp
  | k + 1, j, hk => by
    have ih := pk_bit l k j (by omega)
    simp only [pkB]
    by_cases hb : l.getD k false = true
    · rw [if_pos hb]
      have hlen := pk_len l k
      by_cases hq : j / 8 = k / 8
      · have e : ((pkB l k).set (k / 8) (UInt8.ofNat (((pkB l k).getD (k / 8) 0).toNat ||| 2 ^ (k % 8)))).getD (j / 8) 0 = UInt8.ofNat (((pkB l k).getD (k / 8) 0).toNat ||| 2 ^ (k % 8)) := by
          rw [hq, List.getD_eq_getElem?_getD, List.getElem?_set_self (by omega)]; rfl
        have ih' : ((pkB l k).getD (k / 8) 0).toNat.testBit (j % 8) = (decide (j < k) && l.getD j false) := by rw [← ih]; unfold btB; rw [hq]
        unfold btB
        rw [e, or_byte _ _ (UInt8.toNat_lt _) (by omega), Nat.testBit_or, ih', Nat.testBit_two_pow]
        by_cases hjk : j = k
        · subst hjk; rw [hb]; simp
        · have h8 : ¬ k % 8 = j % 8 := by omega
          have hlt : decide (j < k + 1) = decide (j < k) := by
            by_cases h : j < k
            · rw [decide_eq_true h, decide_eq_true (by omega)]
            · rw [decide_eq_false h, decide_eq_false (by omega)]
          rw [hlt, decide_eq_false h8, Bool.or_false]
      · have e : ((pkB l k).set (k / 8) (UInt8.ofNat (((pkB l k).getD (k / 8) 0).toNat ||| 2 ^ (k % 8)))).getD (j / 8) 0 = (pkB l k).getD (j / 8) 0 := by
          rw [List.getD_eq_getElem?_getD, List.getElem?_set_ne (fun h => hq h.symm), ← List.getD_eq_getElem?_getD]
        have : btB ((pkB l k).set (k / 8) (UInt8.ofNat (((pkB l k).getD (k / 8) 0).toNat ||| 2 ^ (k % 8)))) j = btB (pkB l k) j := by unfold btB; rw [e]
        rw [this, ih]
        have hlt : decide (j < k + 1) = decide (j < k) := by
          by_cases h : j < k
          · rw [decide_eq_true h, decide_eq_true (by omega)]
          · rw [decide_eq_false h, decide_eq_false (by omega)]
        rw [hlt]
    · rw [if_neg hb, ih]
      by_cases hjk : j = k
      · subst hjk
        have : l.getD j false = false := by simpa using hb
        rw [this]; simp
      · have hlt : decide (j < k + 1) = decide (j < k) := by
          by_cases h : j < k
          · rw [decide_eq_true h, decide_eq_true (by omega)]
          · rw [decide_eq_false h, decide_eq_false (by omega)]
        rw [hlt]
theorem getD_bool_out (l : List Bool) (j : Nat) (h : l.length ≤ j) : l.getD j false = false := by
  rw [List.getD_eq_getElem?_getD, List.getElem?_eq_none h]; rfl
theorem pack_len (l : List Bool) : (packB l).length = (l.length + 7) / 8 := pk_len l _
theorem pack_bt (l : List Bool) (j : Nat) : btB (packB l) j = l.getD j false := by
  unfold packB
  rw [pk_bit l _ j (Nat.le_refl _)]
  by_cases h : j < l.length
  · rw [decide_eq_true h, Bool.true_and]
  · rw [decide_eq_false h, Bool.false_and, getD_bool_out l j (by omega)]
theorem pack_pad (l : List Bool) : padB (packB l) l.length = true := by
  cases h : padB (packB l) l.length with
  | true => rfl
  | false =>
    obtain ⟨i, h1, h2, h3⟩ := pad_not (pack_len l) h
    rw [pack_bt, getD_bool_out l i h1] at h3
    cases h3
/-- Counted by a function. -/
def cF (f : Nat → Bool) : Nat → Nat
  | 0 => 0
  | i + 1 => cF f i + (if f i = true then 1 else 0)
theorem cnt_cF (d : List UInt8) (f : Nat → Bool) : ∀ i, (∀ j, j < i → btB d j = f j) → cntB d i = cF f i
  | 0, _ => rfl
  | i + 1, h => by simp only [cntB, cF]; rw [cnt_cF d f i (fun j hj => h j (by omega)), h i (by omega)]
theorem cF_congr (f g : Nat → Bool) : ∀ i, (∀ j, j < i → f j = g j) → cF f i = cF g i
  | 0, _ => rfl
  | i + 1, h => by simp only [cF]; rw [cF_congr f g i (fun j hj => h j (by omega)), h i (by omega)]
theorem cF_add (f : Nat → Bool) (n : Nat) : ∀ i, cF f (n + i) = cF f n + cF (fun j => f (n + j)) i
  | 0 => rfl
  | i + 1 => by rw [← Nat.add_assoc]; simp only [cF]; rw [cF_add f n i]; omega
theorem cnt_pack (l : List Bool) (i : Nat) : cntB (packB l) i = cF (fun j => l.getD j false) i := cnt_cF _ _ _ (fun j _ => pack_bt l j)
theorem pack_app (a b : List Bool) (i : Nat) : cntB (packB (a ++ b)) i = if i ≤ a.length then cntB (packB a) i else cntB (packB a) a.length + cntB (packB b) (i - a.length) := by
  rw [cnt_pack, cnt_pack, cnt_pack, cnt_pack]
  have h1 : ∀ j, j < a.length → (a ++ b).getD j false = a.getD j false := fun j hj => by
    rw [List.getD_eq_getElem?_getD, List.getElem?_append_left hj, ← List.getD_eq_getElem?_getD]
  have h2 : ∀ j, (a ++ b).getD (a.length + j) false = b.getD j false := fun j => by
    rw [List.getD_eq_getElem?_getD, List.getElem?_append_right (by omega), Nat.add_sub_cancel_left, ← List.getD_eq_getElem?_getD]
  split
  · exact cF_congr _ _ _ (fun j hj => h1 j (by omega))
  · obtain ⟨k, rfl⟩ : ∃ k, i = a.length + k := ⟨i - a.length, by omega⟩
    rw [cF_add, Nat.add_sub_cancel_left, cF_congr _ _ _ h1]
    congr 1
    exact cF_congr _ _ _ (fun j _ => h2 j)
theorem rank0_wh {d : List UInt8} {N : Nat} (hl : d.length = (N + 7) / 8) (hN : N ≤ 67108864) (i : Int) : rank0V (whB d N) N (cntB d N) i = ((min i.toNat N - cntB d (min i.toNat N) : Nat) : Int) := by
  unfold rank0V
  rw [rank_wh hl hN]
  have := cnt_le d (min i.toNat N)
  split
  · have : min i.toNat N = 0 := by omega
    rw [this]; rfl
  · omega
def selW (d : List UInt8) (N : Nat) (k : Int) : Int := selV (fun j => (rankV (whB d N) N (cntB d N) (j : Nat) : Nat)) N k (cntB d N)
def sel0W (d : List UInt8) (N : Nat) (k : Int) : Int := selV (fun j => rank0V (whB d N) N (cntB d N) (j : Nat)) N k ((N : Int) - (cntB d N : Nat))
theorem selW_no {d : List UInt8} {N : Nat} {k : Int} (h : k < 0 ∨ (cntB d N : Int) ≤ k) : selW d N k = -1 := by unfold selW selV; rw [if_pos h]
theorem sel0W_no {d : List UInt8} {N : Nat} {k : Int} (h : k < 0 ∨ (N : Int) - (cntB d N : Nat) ≤ k) : sel0W d N k = -1 := by unfold sel0W selV; rw [if_pos h]
theorem cnt_succ (d : List UInt8) (i : Nat) : cntB d (i + 1) = cntB d i + (if btB d i = true then 1 else 0) := rfl
theorem selW_yes {d : List UInt8} {N : Nat} (hl : d.length = (N + 7) / 8) (hN : N ≤ 67108864) (k : Nat) (hk : k < cntB d N) : ∃ v, selW d N k = (v : Nat) ∧ v < N ∧ btB d v = true ∧ cntB d v = k := by
  have hc := cnt_le d N
  have hcf : ∀ j : Nat, ((rankV (whB d N) N (cntB d N) (j : Nat) : Nat) : Int) = ((cntB d (min j N) : Nat) : Int) := fun j => by rw [rank_wh hl hN, Int.toNat_natCast]
  have hs := srch_least (fun j => (rankV (whB d N) N (cntB d N) (j : Nat) : Nat)) k (fun i j hij => by
      simp only [hcf]; have := cnt_mono d (show min i N ≤ min j N by omega); omega) N 0 (N - 1) (by omega) (by omega)
      (by simp only [hcf]; rw [show min (N - 1 + 1) N = N by omega]; omega) (fun j hj => by omega)
  have hb := srch_bd (fun j => (rankV (whB d N) N (cntB d N) (j : Nat) : Nat)) k N 0 (N - 1) (by omega)
  unfold selW selV
  rw [if_neg (by omega)]
  obtain ⟨v, hv⟩ : ∃ v, v = srchF (fun j => (rankV (whB d N) N (cntB d N) (j : Nat) : Nat)) (k : Nat) N 0 (N - 1) := ⟨_, rfl⟩
  rw [← hv] at hs hb ⊢
  simp only [hcf] at hs
  obtain ⟨h1, h2⟩ := hs
  rw [show min (v + 1) N = v + 1 by omega, cnt_succ] at h1
  have h3 : cntB d v ≤ k := by
    cases v with
    | zero => simp [cntB]
    | succ u => have := h2 u (by omega); rw [show min (u + 1) N = u + 1 by omega] at this; omega
  refine ⟨v, rfl, by omega, ?_, ?_⟩
  · cases hbv : btB d v with
    | true => rfl
    | false => rw [hbv] at h1; simp at h1; omega
  · split at h1 <;> omega
theorem selW_at {d : List UInt8} {N : Nat} (hl : d.length = (N + 7) / 8) (hN : N ≤ 67108864) (u : Nat) (hu : u < N) (hb : btB d u = true) : selW d N (cntB d u : Nat) = (u : Nat) := by
  have h1 := cnt_succ d u
  rw [if_pos hb] at h1
  have h2 := cnt_mono d (show u + 1 ≤ N by omega)
  obtain ⟨v, e, hv, hbv, hc⟩ := selW_yes hl hN (cntB d u) (by omega)
  rw [e]
  have h3 := cnt_succ d v
  rw [if_pos hbv] at h3
  by_cases hlt : u < v
  · have := cnt_mono d (show u + 1 ≤ v by omega); omega
  · by_cases hgt : v < u
    · have := cnt_mono d (show v + 1 ≤ u by omega); omega
    · omega
theorem nul_mono (d : List UInt8) {i j : Nat} (h : i ≤ j) : i - cntB d i ≤ j - cntB d j := by
  have h1 := (cnt_add d i (j - i)).2
  rw [show i + (j - i) = j by omega] at h1
  have := cnt_le d i
  have := cnt_le d j
  omega
theorem sel0W_yes {d : List UInt8} {N : Nat} (hl : d.length = (N + 7) / 8) (hN : N ≤ 67108864) (k : Nat) (hk : k < N - cntB d N) : ∃ v, sel0W d N k = (v : Nat) ∧ v < N ∧ btB d v = false ∧ v - cntB d v = k := by
  have hc := cnt_le d N
  have hcf : ∀ j : Nat, rank0V (whB d N) N (cntB d N) (j : Nat) = ((min j N - cntB d (min j N) : Nat) : Int) := fun j => by rw [rank0_wh hl hN, Int.toNat_natCast]
  have hs := srch_least (fun j => rank0V (whB d N) N (cntB d N) (j : Nat)) k (fun i j hij => by
      simp only [hcf]; have := nul_mono d (show min i N ≤ min j N by omega); omega) N 0 (N - 1) (by omega) (by omega)
      (by simp only [hcf]; rw [show min (N - 1 + 1) N = N by omega]; omega) (fun j hj => by omega)
  have hb := srch_bd (fun j => rank0V (whB d N) N (cntB d N) (j : Nat)) k N 0 (N - 1) (by omega)
  unfold sel0W selV
  rw [if_neg (by omega)]
  obtain ⟨v, hv⟩ : ∃ v, v = srchF (fun j => rank0V (whB d N) N (cntB d N) (j : Nat)) (k : Nat) N 0 (N - 1) := ⟨_, rfl⟩
  rw [← hv] at hs hb ⊢
  simp only [hcf] at hs
  obtain ⟨h1, h2⟩ := hs
  rw [show min (v + 1) N = v + 1 by omega, cnt_succ] at h1
  have hcv := cnt_le d v
  have h3 : v - cntB d v ≤ k := by
    cases v with
    | zero => simp
    | succ u => have := h2 u (by omega); rw [show min (u + 1) N = u + 1 by omega] at this; omega
  refine ⟨v, rfl, by omega, ?_, ?_⟩
  · cases hbv : btB d v with
    | false => rfl
    | true => rw [hbv] at h1; simp at h1; omega
  · split at h1 <;> omega
theorem sel0W_at {d : List UInt8} {N : Nat} (hl : d.length = (N + 7) / 8) (hN : N ≤ 67108864) (u : Nat) (hu : u < N) (hb : btB d u = false) : sel0W d N (u - cntB d u : Nat) = (u : Nat) := by
  have h1 := cnt_succ d u
  rw [hb] at h1
  simp at h1
  have hcu := cnt_le d u
  have h2 := nul_mono d (show u + 1 ≤ N by omega)
  obtain ⟨v, e, hv, hbv, hc⟩ := sel0W_yes hl hN (u - cntB d u) (by omega)
  rw [e]
  have h3 := cnt_succ d v
  rw [hbv] at h3
  simp at h3
  have hcv := cnt_le d v
  by_cases hlt : u < v
  · have := nul_mono d (show u + 1 ≤ v by omega); omega
  · by_cases hgt : v < u
    · have := nul_mono d (show v + 1 ≤ u by omega); omega
    · omega
end Go.Tk
/- Quads that rise, level by level, and the tree's bytes. Plain. -/
namespace Go.Tk
open Go Go.RowKit
/-- Four numbers. -/
structure Qd where
  a : Int
  b : Int
  c : Int
  d : Int
deriving DecidableEq, Inhabited
def Qd.at (q : Qd) : Nat → Int
  | 0 => q.a
  | 1 => q.b
  | 2 => q.c
  | _ => q.d
def okN (k : Nat) (n : Int) : Bool := decide (((min k 1 : Nat) : Int) ≤ n) && decide (n ≤ 4194304)
def okQ (q : Qd) : Bool := okN 0 q.a && okN 1 q.b && okN 2 q.c && okN 3 q.d
/-- The order of two quads. -/
def cmpQ (p q : Qd) : Int :=
  if p.a < q.a then -1 else if q.a < p.a then 1 else if p.b < q.b then -1 else if q.b < p.b then 1 else if p.c < q.c then -1 else if q.c < p.c then 1 else if p.d < q.d then -1 else if q.d < p.d then 1 else 0
def badQ (L : List Qd) : Bool := L.any fun q => !okQ q
def riseQ (L : List Qd) : Bool := (List.range (L.length - 1)).all fun i => decide (cmpQ (L.getD i default) (L.getD (i + 1) default) < 0)
/-- What check says. -/
def chkT (L : List Qd) : Int := if 1048576 < L.length then 2 else if badQ L = true then 180 else if riseQ L = true then 0 else 160
/-- The first level with another number. -/
def fk (p q : Qd) : Nat := if p.a ≠ q.a then 0 else if p.b ≠ q.b then 1 else if p.c ≠ q.c then 2 else if p.d ≠ q.d then 3 else 4
def fK (L : List Qd) (i : Nat) : Nat := if i = 0 then 0 else fk (L.getD (i - 1) default) (L.getD i default)
/-- The numbers of a level behind so many quads. -/
def levN (L : List Qd) (j : Nat) : Nat → List Int
  | 0 => []
  | i + 1 => if fK L i ≤ j then levN L j i ++ [(L.getD i default).at j] else levN L j i
/-- The last one is the last one of its parent. -/
def clB (l : List Bool) : List Bool := l.set (l.length - 1) true
/-- Which of a level's entries are the last ones of their parents. -/
def levB (L : List Qd) (j : Nat) : Nat → List Bool
  | 0 => []
  | i + 1 => if fK L i < j then clB (levB L j i) ++ [false] else if fK L i = j then levB L j i ++ [false] else levB L j i
def lastB (L : List Qd) (j : Nat) : List Bool := clB (levB L j L.length)
/-- The greatest. -/
def mxL (zs : List Int) : Int := zs.foldl max 0
def wdL (zs : List Int) : Int := bw (mxL zs)
theorem clB_len (l : List Bool) : (clB l).length = l.length := by simp [clB]
theorem fk_le (p q : Qd) : fk p q ≤ 4 := by
  unfold fk
  repeat' split
  all_goals omega
theorem fk_lt {p q : Qd} (h : cmpQ p q < 0) : fk p q < 4 := by
  unfold cmpQ at h
  refine Decidable.byContradiction fun hn => ?_
  have e := fk_le p q
  unfold fk at hn e
  by_cases h1 : p.a ≠ q.a
  · rw [if_pos h1] at hn; omega
  rw [if_neg h1] at hn
  by_cases h2 : p.b ≠ q.b
  · rw [if_pos h2] at hn; omega
  rw [if_neg h2] at hn
  by_cases h3 : p.c ≠ q.c
  · rw [if_pos h3] at hn; omega
  rw [if_neg h3] at hn
  by_cases h4 : p.d ≠ q.d
  · rw [if_pos h4] at hn; omega
  simp only [Decidable.not_not] at h1 h2 h3 h4
  rw [h1, h2, h3, h4] at h
  simp at h
theorem fk_eq {p q : Qd} {j : Nat} (h : j < fk p q) : p.at j = q.at j := by
  unfold fk at h
  by_cases h0 : p.a ≠ q.a
  · rw [if_pos h0] at h; omega
  rw [if_neg h0] at h
  simp only [Decidable.not_not] at h0
  by_cases h1 : p.b ≠ q.b
  · rw [if_pos h1] at h; obtain rfl : j = 0 := by omega
    exact h0
  rw [if_neg h1] at h
  simp only [Decidable.not_not] at h1
  by_cases h2 : p.c ≠ q.c
  · rw [if_pos h2] at h
    rcases (by omega : j = 0 ∨ j = 1) with rfl | rfl
    · exact h0
    · exact h1
  rw [if_neg h2] at h
  simp only [Decidable.not_not] at h2
  by_cases h3 : p.d ≠ q.d
  · rw [if_pos h3] at h
    rcases (by omega : j = 0 ∨ j = 1 ∨ j = 2) with rfl | rfl | rfl
    · exact h0
    · exact h1
    · exact h2
  rw [if_neg h3] at h
  simp only [Decidable.not_not] at h3
  rcases (by omega : j = 0 ∨ j = 1 ∨ j = 2 ∨ j = 3) with rfl | rfl | rfl | rfl
  · exact h0
  · exact h1
  · exact h2
  · exact h3
theorem fk_ne {p q : Qd} (h : fk p q < 4) : p.at (fk p q) ≠ q.at (fk p q) := by
  unfold fk at h ⊢
  by_cases h0 : p.a ≠ q.a
  · rw [if_pos h0]; exact h0
  rw [if_neg h0] at h ⊢
  by_cases h1 : p.b ≠ q.b
  · rw [if_pos h1]; exact h1
  rw [if_neg h1] at h ⊢
  by_cases h2 : p.c ≠ q.c
  · rw [if_pos h2]; exact h2
  rw [if_neg h2] at h ⊢
  by_cases h3 : p.d ≠ q.d
  · rw [if_pos h3]; exact h3
  rw [if_neg h3] at h
  omega
theorem fk_is {p q : Qd} {j : Nat} (h4 : j < 4) (he : ∀ i, i < j → p.at i = q.at i) (hn : p.at j ≠ q.at j) : fk p q = j := by
  rcases Nat.lt_trichotomy (fk p q) j with h | h | h
  · exact absurd (he _ h) (fk_ne (by omega))
  · exact h
  · exact absurd (fk_eq h) hn
theorem levN_len (L : List Qd) (j : Nat) : ∀ i, (levN L j i).length ≤ i
  | 0 => by simp [levN]
  | i + 1 => by
    have := levN_len L j i
    simp only [levN]
    split
    · simp; omega
    · omega
theorem levB_len (L : List Qd) (j : Nat) : ∀ i, (levB L j i).length = (levN L j i).length
  | 0 => by simp [levN, levB]
  | i + 1 => by
    have := levB_len L j i
    simp only [levN, levB]
    by_cases h1 : fK L i < j
    · rw [if_pos h1, if_pos (by omega)]; simp [clB_len, this]
    · rw [if_neg h1]
      by_cases h2 : fK L i = j
      · rw [if_pos h2, if_pos (by omega)]; simp [this]
      · rw [if_neg h2, if_neg (by omega), this]
theorem okN_iff (k : Nat) (n : Int) : okN k n = true ↔ ((min k 1 : Nat) : Int) ≤ n ∧ n ≤ 4194304 := by
  unfold okN; rw [Bool.and_eq_true, decide_eq_true_iff, decide_eq_true_iff]
theorem okQ_at {q : Qd} (h : okQ q = true) : ∀ j, 0 ≤ q.at j ∧ q.at j ≤ 4194304 := by
  unfold okQ at h
  simp only [Bool.and_eq_true, okN_iff] at h
  obtain ⟨⟨⟨h0, h1⟩, h2⟩, h3⟩ := h
  intro j
  rcases (by omega : j = 0 ∨ j = 1 ∨ j = 2 ∨ 3 ≤ j) with rfl | rfl | rfl | hj
  · exact ⟨by have := h0.1; simp [Qd.at]; omega, by have := h0.2; simpa [Qd.at] using this⟩
  · exact ⟨by have := h1.1; simp [Qd.at]; omega, by have := h1.2; simpa [Qd.at] using this⟩
  · exact ⟨by have := h2.1; simp [Qd.at]; omega, by have := h2.2; simpa [Qd.at] using this⟩
  · have e : q.at j = q.d := by unfold Qd.at; split <;> first | omega | rfl
    rw [e]
    exact ⟨by have := h3.1; omega, h3.2⟩
theorem bad_yes {L : List Qd} {i : Nat} (hi : i < L.length) (h : okQ (L.getD i default) = false) : badQ L = true := by
  unfold badQ
  rw [List.any_eq_true]
  refine ⟨L[i], List.getElem_mem hi, ?_⟩
  have : L.getD i default = L[i] := by simp [hi]
  rw [this] at h
  rw [h]; rfl
theorem bad_no {L : List Qd} (h : ∀ i, i < L.length → okQ (L.getD i default) = true) : badQ L = false := by
  unfold badQ
  rw [List.any_eq_false]
  intro s hs
  obtain ⟨i, hi, rfl⟩ := List.mem_iff_getElem.1 hs
  have := h i hi
  have e : L.getD i default = L[i] := by simp [hi]
  rw [e] at this
  rw [this]; simp
theorem riseQ_no {L : List Qd} {i : Nat} (h0 : 0 < i) (hi : i < L.length) (h : 0 ≤ cmpQ (L.getD (i - 1) default) (L.getD i default)) : riseQ L = false := by
  unfold riseQ
  rw [List.all_eq_false]
  refine ⟨i - 1, List.mem_range.2 (by omega), ?_⟩
  rw [show i - 1 + 1 = i by omega]
  intro hd
  have := of_decide_eq_true hd
  omega
theorem riseQ_yes {L : List Qd} (h : ∀ i, 0 < i → i < L.length → cmpQ (L.getD (i - 1) default) (L.getD i default) < 0) : riseQ L = true := by
  unfold riseQ
  rw [List.all_eq_true]
  intro i hi
  have := h (i + 1) (by omega) (by have := List.mem_range.1 hi; omega)
  exact decide_eq_true this
/-- What holds of quads that check takes. -/
structure Right (L : List Qd) : Prop where
  len : L.length ≤ 1048576
  ok : ∀ i, i < L.length → okQ (L.getD i default) = true
  rise : ∀ i, 0 < i → i < L.length → cmpQ (L.getD (i - 1) default) (L.getD i default) < 0
theorem chk_right {L : List Qd} (h : chkT L = 0) : Right L := by
  unfold chkT at h
  by_cases h1 : 1048576 < L.length
  · rw [if_pos h1] at h; omega
  rw [if_neg h1] at h
  by_cases h2 : badQ L = true
  · rw [if_pos h2] at h; omega
  rw [if_neg h2] at h
  by_cases h3 : riseQ L = true
  · refine ⟨by omega, fun i hi => ?_, fun i h0 hi => ?_⟩
    · cases hq : okQ (L.getD i default) with
      | true => rfl
      | false => exact absurd (bad_yes hi hq) h2
    · refine Decidable.byContradiction fun hn => ?_
      rw [riseQ_no h0 hi (by omega)] at h3
      cases h3
  · rw [if_neg h3] at h; omega
theorem right_chk {L : List Qd} (h : Right L) : chkT L = 0 := by
  unfold chkT
  rw [if_neg (by have := h.len; omega), if_neg (by rw [bad_no h.ok]; decide), if_pos (riseQ_yes h.rise)]
theorem Right.fK_lt {L : List Qd} (h : Right L) {i : Nat} (hi : i < L.length) : fK L i < 4 := by
  unfold fK
  by_cases h0 : i = 0
  · rw [if_pos h0]; omega
  · rw [if_neg h0]; exact fk_lt (h.rise i (by omega) hi)
theorem Right.num {L : List Qd} (h : Right L) (j : Nat) : ∀ i, i ≤ L.length → ∀ x ∈ levN L j i, 0 ≤ x ∧ x ≤ 4194304
  | 0, _ => by simp [levN]
  | i + 1, hi => by
    simp only [levN]
    split
    · intro x hx
      rcases List.mem_append.1 hx with hx | hx
      · exact h.num j i (by omega) x hx
      · simp at hx
        rw [hx]
        exact okQ_at (h.ok i (by omega)) j
    · exact h.num j i (by omega)
theorem foldl_max (l : List Int) : ∀ m : Int, m ≤ l.foldl max m ∧ (∀ x ∈ l, x ≤ l.foldl max m) ∧ (l.foldl max m = m ∨ l.foldl max m ∈ l) := by
  induction l with
  | nil => intro m; simp
  | cons a t ih =>
    intro m
    obtain ⟨h1, h2, h3⟩ := ih (max m a)
    simp only [List.foldl_cons]
    refine ⟨by omega, ?_, ?_⟩
    · intro x hx
      rcases List.mem_cons.1 hx with rfl | hx
      · omega
      · exact h2 x hx
    · rcases h3 with h3 | h3
      · rw [h3]
        rcases (by omega : max m a = m ∨ max m a = a) with e | e
        · exact .inl e
        · exact .inr (by rw [e]; exact List.mem_cons_self)
      · exact .inr (List.mem_cons_of_mem _ h3)
theorem mxL_range {zs : List Int} {M : Int} (h : ∀ x ∈ zs, 0 ≤ x ∧ x ≤ M) (hM : 0 ≤ M) : 0 ≤ mxL zs ∧ mxL zs ≤ M := by
  obtain ⟨h1, _, h3⟩ := foldl_max zs 0
  refine ⟨h1, ?_⟩
  unfold mxL
  rcases h3 with e | e
  · rw [e]; exact hM
  · exact (h _ e).2
theorem byte_ext {x y : UInt8} (h : ∀ j, j < 8 → x.toNat.testBit j = y.toNat.testBit j) : x = y := by
  apply UInt8.toNat_inj.1
  apply Nat.eq_of_testBit_eq
  intro j
  by_cases hj : j < 8
  · exact h j hj
  · rw [Nat.testBit_lt_two_pow (Nat.lt_of_lt_of_le (UInt8.toNat_lt x) (Nat.pow_le_pow_right (by decide) (by omega : 8 ≤ j))), Nat.testBit_lt_two_pow (Nat.lt_of_lt_of_le (UInt8.toNat_lt y) (Nat.pow_le_pow_right (by decide) (by omega : 8 ≤ j)))]
theorem bt_ext {d e : List UInt8} (hl : d.length = e.length) (h : ∀ j, j < 8 * d.length → btB d j = btB e j) : d = e := by
  apply List.ext_getElem hl
  intro i h1 h2
  apply byte_ext
  intro j hj
  have := h (8 * i + j) (by omega)
  unfold btB at this
  rw [show (8 * i + j) / 8 = i by omega, show (8 * i + j) % 8 = j by omega] at this
  simpa [h1, h2] using this
/-- A bit more, not set. -/
theorem pack_put (l : List Bool) : packB (l ++ [false]) = if l.length % 8 = 0 then packB l ++ [0] else packB l := by
  have hb : ∀ j, (l ++ [false]).getD j false = l.getD j false := fun j => by
    by_cases h : j < l.length
    · simp [List.getD_eq_getElem?_getD, List.getElem?_append_left h]
    · rw [getD_bool_out l j (by omega)]
      by_cases h2 : j = l.length
      · subst h2; simp
      · rw [getD_bool_out _ j (by simp; omega)]
  apply bt_ext
  · rw [pack_len, List.length_append, List.length_singleton]
    split
    · rw [List.length_append, pack_len, List.length_singleton]; omega
    · rw [pack_len]; omega
  · intro j _
    rw [pack_bt, hb]
    split
    · by_cases hj : j < 8 * (packB l).length
      · rw [bt_app _ _ _ hj, pack_bt]
      · have hl := pack_len l
        rw [getD_bool_out l j (by omega)]
        unfold btB
        by_cases h2 : j / 8 = (packB l).length
        · simp [List.getD_eq_getElem?_getD, h2]
        · simp [List.getD_eq_getElem?_getD, List.getElem?_append_right (show (packB l).length ≤ j / 8 by omega), List.getElem?_eq_none (show [(0 : UInt8)].length ≤ j / 8 - (packB l).length by simp; omega)]
    · rw [pack_bt]
/-- The last bit is set. -/
theorem pack_cl {l : List Bool} (h : 0 < l.length) : packB (clB l) = (packB l).set ((l.length - 1) / 8) (UInt8.ofNat (((packB l).getD ((l.length - 1) / 8) 0).toNat ||| 2 ^ ((l.length - 1) % 8))) := by
  have hl := pack_len l
  apply bt_ext
  · rw [pack_len, clB_len, List.length_set, pack_len]
  · intro j _
    rw [pack_bt]
    unfold clB
    by_cases hq : j / 8 = (l.length - 1) / 8
    · have e : ((packB l).set ((l.length - 1) / 8) (UInt8.ofNat (((packB l).getD ((l.length - 1) / 8) 0).toNat ||| 2 ^ ((l.length - 1) % 8)))).getD (j / 8) 0 = UInt8.ofNat (((packB l).getD ((l.length - 1) / 8) 0).toNat ||| 2 ^ ((l.length - 1) % 8)) := by
        rw [hq, List.getD_eq_getElem?_getD, List.getElem?_set_self (by omega)]; rfl
      have ih' : ((packB l).getD ((l.length - 1) / 8) 0).toNat.testBit (j % 8) = l.getD j false := by rw [← pack_bt l j]; unfold btB; rw [hq]
      unfold btB
      rw [e, or_byte _ _ (UInt8.toNat_lt _) (by omega), Nat.testBit_or, ih', Nat.testBit_two_pow]
      by_cases hjk : j = l.length - 1
      · subst hjk; simp [List.getD_eq_getElem?_getD, List.getElem?_set_self (show l.length - 1 < l.length by omega)]
      · have h8 : ¬ (l.length - 1) % 8 = j % 8 := by omega
        rw [decide_eq_false h8, Bool.or_false, List.getD_eq_getElem?_getD, List.getElem?_set_ne (by omega), ← List.getD_eq_getElem?_getD]
    · have e : ((packB l).set ((l.length - 1) / 8) (UInt8.ofNat (((packB l).getD ((l.length - 1) / 8) 0).toNat ||| 2 ^ ((l.length - 1) % 8)))).getD (j / 8) 0 = (packB l).getD (j / 8) 0 := by
        rw [List.getD_eq_getElem?_getD, List.getElem?_set_ne (fun h => hq h.symm), ← List.getD_eq_getElem?_getD]
      unfold btB
      rw [e]
      have := pack_bt l j
      unfold btB at this
      rw [this, List.getD_eq_getElem?_getD, List.getD_eq_getElem?_getD, List.getElem?_set_ne (fun h => hq (by rw [h]))]
end Go.Tk
namespace Go.Proofs.Ytgajpekolamjbaa
open Go.RowKit Go.Tk
/-- A level's bytes. -/
def secB (L : List Qd) (j : Nat) : List Int :=
  let ns := levN L j L.length
  wdL ns :: (packOut ns (wdL ns) ++ if j = 0 then [] else nums (whB (packB (lastB L j)) ns.length))
def headB (L : List Qd) : List Int :=
  vz ((levN L 0 L.length).length : Nat) ++ vz ((levN L 1 L.length).length : Nat) ++ vz ((levN L 2 L.length).length : Nat) ++ vz ((levN L 3 L.length).length : Nat)
def treeB (L : List Qd) : List Int := headB L ++ secB L 0 ++ secB L 1 ++ secB L 2 ++ secB L 3
def buildTE (L : List Qd) (most : Int) : Int := if chkT L ≠ 0 then chkT L else if most < (treeB L).length then 1 else 0
def buildTO (L : List Qd) (most : Int) : List Int := if buildTE L most = 0 then treeB L else []
end Go.Proofs.Ytgajpekolamjbaa
/- Levels of quads that rise: where each quad's entries stand, what their bits count. Plain. -/
namespace Go.Tk
open Go Go.RowKit
/-- How many entries of a level come from so many quads. -/
def posL (L : List Qd) (k t : Nat) : Nat := (levN L k t).length
/-- An entry of a level begins here (or all is over). -/
def bdL (L : List Qd) (k t : Nat) : Prop := t = L.length ∨ fK L t ≤ k
theorem fK_zero (L : List Qd) : fK L 0 = 0 := rfl
theorem bdL_zero (L : List Qd) (k : Nat) : bdL L k 0 := .inr (by rw [fK_zero]; omega)
theorem bdL_end (L : List Qd) (k : Nat) : bdL L k L.length := .inl rfl
theorem bdL_up {L : List Qd} {k t : Nat} (h : bdL L k t) : bdL L (k + 1) t := h.imp id fun h => by omega
theorem posL_zero (L : List Qd) (k : Nat) : posL L k 0 = 0 := rfl
theorem posL_yes {L : List Qd} {k t : Nat} (h : fK L t ≤ k) : posL L k (t + 1) = posL L k t + 1 := by
  unfold posL; simp only [levN]; rw [if_pos h]; simp
theorem posL_no {L : List Qd} {k t : Nat} (h : ¬ fK L t ≤ k) : posL L k (t + 1) = posL L k t := by
  unfold posL; simp only [levN]; rw [if_neg h]
theorem posL_step (L : List Qd) (k t : Nat) : posL L k t ≤ posL L k (t + 1) ∧ posL L k (t + 1) ≤ posL L k t + 1 := by
  by_cases h : fK L t ≤ k
  · rw [posL_yes h]; omega
  · rw [posL_no h]; omega
theorem posL_mono (L : List Qd) (k : Nat) {t u : Nat} (h : t ≤ u) : posL L k t ≤ posL L k u := by
  induction u with
  | zero => obtain rfl : t = 0 := by omega
            exact Nat.le_refl _
  | succ u ih =>
    by_cases e : t = u + 1
    · subst e; exact Nat.le_refl _
    · have := ih (by omega); have := (posL_step L k u).1; omega
theorem posL_pos (L : List Qd) (k : Nat) {t : Nat} (h : 0 < t) : 0 < posL L k t := by
  have h1 := posL_mono L k (show 1 ≤ t from h)
  have h2 : posL L k 1 = posL L k 0 + 1 := posL_yes (L := L) (k := k) (t := 0) (by rw [fK_zero]; omega)
  omega
theorem posL_up (L : List Qd) (k : Nat) : ∀ t, posL L k t ≤ posL L (k + 1) t
  | 0 => Nat.le_refl _
  | t + 1 => by
    have ih := posL_up L k t
    by_cases h : fK L t ≤ k
    · rw [posL_yes h, posL_yes (show fK L t ≤ k + 1 by omega)]; omega
    · rw [posL_no h]; have := (posL_step L (k + 1) t).1; omega
theorem posL_three {L : List Qd} (R : Right L) : ∀ t, t ≤ L.length → posL L 3 t = t
  | 0, _ => rfl
  | t + 1, h => by rw [posL_yes (by have := R.fK_lt (i := t) (by omega); omega), posL_three R t (by omega)]
theorem posL_le (L : List Qd) (k : Nat) (t : Nat) : posL L k t ≤ t := levN_len L k t
/-- Between two places of which none begins an entry. -/
theorem posL_flat (L : List Qd) (k : Nat) {t u : Nat} (h : t ≤ u) (hn : ∀ i, t < i → i < u → ¬ fK L i ≤ k) (hb : t < u) : posL L k u = posL L k (t + 1) := by
  induction u with
  | zero => omega
  | succ u ih =>
    by_cases e : t = u
    · subst e; rfl
    · rw [posL_no (hn u (by omega) (by omega))]; exact ih (by omega) (fun i h1 h2 => hn i h1 (by omega)) (by omega)
/-- The number of the entry that a quad comes from. -/
theorem levN_get (L : List Qd) (k : Nat) : ∀ (u t : Nat), t < u → (levN L k u)[posL L k (t + 1) - 1]? = some ((L.getD t default).at k)
  | 0, t, h => by omega
  | u + 1, t, h => by
    by_cases e : t = u
    · subst e
      by_cases hf : fK L t ≤ k
      · rw [posL_yes hf]
        simp only [levN]; rw [if_pos hf]
        unfold posL; simp
      · rw [posL_no hf]
        simp only [levN]; rw [if_neg hf]
        cases t with
        | zero => rw [fK_zero] at hf; omega
        | succ s =>
          rw [levN_get L k (s + 1) s (by omega)]
          have h1 : fK L (s + 1) = fk (L.getD s default) (L.getD (s + 1) default) := by unfold fK; rw [if_neg (by omega)]; rfl
          rw [h1] at hf
          rw [fk_eq (show k < fk (L.getD s default) (L.getD (s + 1) default) by omega)]
    · have ih := levN_get L k u t (by omega)
      have hlt : posL L k (t + 1) - 1 < (levN L k u).length := by
        have h1 := posL_pos L k (show 0 < t + 1 by omega)
        have h2 := posL_mono L k (show t + 1 ≤ u by omega)
        unfold posL at h1 h2 ⊢; omega
      simp only [levN]
      split
      · rw [List.getElem?_append_left hlt]; exact ih
      · exact ih
/-- Each entry begins somewhere. -/
theorem posL_ex (L : List Qd) (k : Nat) : ∀ (u i : Nat), i < posL L k u → ∃ t, t < u ∧ fK L t ≤ k ∧ posL L k t = i
  | 0, i, h => by rw [posL_zero] at h; omega
  | u + 1, i, h => by
    by_cases hi : i < posL L k u
    · obtain ⟨t, h1, h2⟩ := posL_ex L k u i hi
      exact ⟨t, by omega, h2⟩
    · by_cases hf : fK L u ≤ k
      · rw [posL_yes hf] at h
        exact ⟨u, by omega, hf, by omega⟩
      · rw [posL_no hf] at h; omega
/-- The bits of the first ones, counted. -/
def cbL (l : List Bool) (i : Nat) : Nat := cF (fun j => l.getD j false) i
theorem cb_cnt (l : List Bool) (i : Nat) : cntB (packB l) i = cbL l i := cnt_pack l i
theorem cb_ext {l m : List Bool} {i : Nat} (h : ∀ j, j < i → l.getD j false = m.getD j false) : cbL l i = cbL m i := cF_congr _ _ _ h
theorem cb_succ (l : List Bool) (i : Nat) : cbL l (i + 1) = cbL l i + (if l.getD i false = true then 1 else 0) := rfl
theorem getD_appl {l m : List Bool} {j : Nat} (h : j < l.length) : (l ++ m).getD j false = l.getD j false := by
  simp [List.getD_eq_getElem?_getD, List.getElem?_append_left h]
theorem getD_snoc (l : List Bool) (x : Bool) : (l ++ [x]).getD l.length false = x := by simp [List.getD_eq_getElem?_getD]
theorem getD_cl {l : List Bool} {j : Nat} (h : j ≠ l.length - 1) : (clB l).getD j false = l.getD j false := by
  unfold clB; rw [List.getD_eq_getElem?_getD, List.getElem?_set_ne (fun e => h e.symm), ← List.getD_eq_getElem?_getD]
theorem getD_cl_last {l : List Bool} (h : 0 < l.length) : (clB l).getD (l.length - 1) false = true := by
  unfold clB; rw [List.getD_eq_getElem?_getD, List.getElem?_set_self (by omega)]; rfl
theorem levB_posL (L : List Qd) (k t : Nat) : (levB L k t).length = posL L k t := levB_len L k t
theorem last_len (L : List Qd) (k : Nat) : (lastB L k).length = posL L k L.length := by unfold lastB; rw [clB_len, levB_posL]
/-- All that is closed behind so many quads: all entries of the level above but the last one. -/
theorem levB_cnt (L : List Qd) (k : Nat) : ∀ t, cbL (levB L (k + 1) t) (posL L (k + 1) t) = posL L k t - 1 ∧ (0 < t → (levB L (k + 1) t).getD (posL L (k + 1) t - 1) false = false)
  | 0 => ⟨rfl, fun h => by omega⟩
  | t + 1 => by
    obtain ⟨h1, h2⟩ := levB_cnt L k t
    have hl := levB_posL L (k + 1) t
    simp only [levB]
    by_cases ha : fK L t < k + 1
    · rw [if_pos ha, posL_yes (show fK L t ≤ k + 1 by omega), posL_yes (show fK L t ≤ k by omega)]
      have hlc : (clB (levB L (k + 1) t)).length = posL L (k + 1) t := by rw [clB_len, hl]
      have hlast : (clB (levB L (k + 1) t) ++ [false]).getD (posL L (k + 1) t) false = false := by rw [← hlc]; exact getD_snoc _ _
      refine ⟨?_, fun _ => by rw [Nat.add_sub_cancel]; exact hlast⟩
      rw [cb_succ, hlast, cb_ext (m := clB (levB L (k + 1) t)) (fun j hj => getD_appl (by rw [hlc]; exact hj))]
      by_cases ht : t = 0
      · subst ht; rfl
      · have p1 := posL_pos L (k + 1) (show 0 < t by omega)
        have p0 := posL_pos L k (show 0 < t by omega)
        obtain ⟨m, hm⟩ : ∃ m, posL L (k + 1) t = m + 1 := ⟨posL L (k + 1) t - 1, by omega⟩
        have e1 := getD_cl_last (l := levB L (k + 1) t) (by omega)
        rw [hl, hm, Nat.add_sub_cancel] at e1
        have h3 := h2 (by omega)
        rw [hm, Nat.add_sub_cancel] at h3
        rw [hm, cb_succ, h3] at h1
        rw [hm, cb_succ, e1, cb_ext (m := levB L (k + 1) t) (fun j hj => getD_cl (by rw [hl]; omega))]
        simp only [Bool.false_eq_true, if_false, if_true] at h1 ⊢
        omega
    · rw [if_neg ha]
      by_cases hb : fK L t = k + 1
      · rw [if_pos hb, posL_yes (show fK L t ≤ k + 1 by omega), posL_no (show ¬ fK L t ≤ k by omega)]
        have hlast : (levB L (k + 1) t ++ [false]).getD (posL L (k + 1) t) false = false := by rw [← hl]; exact getD_snoc _ _
        refine ⟨?_, fun _ => by rw [Nat.add_sub_cancel]; exact hlast⟩
        rw [cb_succ, hlast, cb_ext (m := levB L (k + 1) t) (fun j hj => getD_appl (by rw [hl]; exact hj)), h1]
        simp
      · rw [if_neg hb, posL_no (show ¬ fK L t ≤ k + 1 by omega), posL_no (show ¬ fK L t ≤ k by omega)]
        refine ⟨h1, fun _ => h2 ?_⟩
        rcases Nat.eq_zero_or_pos t with rfl | h
        · rw [fK_zero] at ha; omega
        · exact h
/-- What is behind does not change the bits, but for the last one. -/
theorem levB_keep (L : List Qd) (k : Nat) {t u : Nat} (h : t ≤ u) : ∀ j, j + 1 < posL L k t → (levB L k u).getD j false = (levB L k t).getD j false := by
  induction u with
  | zero => obtain rfl : t = 0 := by omega
            intro j _; rfl
  | succ u ih =>
    intro j hj
    by_cases e : t = u + 1
    · subst e; rfl
    · have h1 := ih (by omega) j hj
      have hm := posL_mono L k (show t ≤ u by omega)
      have hl := levB_posL L k u
      rw [← h1]
      simp only [levB]
      split
      · rw [getD_appl (by rw [clB_len]; omega), getD_cl (by omega)]
      · split
        · rw [getD_appl (by omega)]
        · rfl
theorem last_keep (L : List Qd) (k : Nat) {t : Nat} (h : t ≤ L.length) (j : Nat) (hj : j + 1 < posL L k t) : (lastB L k).getD j false = (levB L k t).getD j false := by
  have hm := posL_mono L k h
  unfold lastB
  rw [getD_cl (by rw [levB_posL]; omega)]
  exact levB_keep L k h j hj
/-- Where an entry of the level above begins, the one ahead is closed. -/
theorem last_set (L : List Qd) (k : Nat) {t : Nat} (h0 : 0 < t) (ht : t ≤ L.length) (hb : bdL L k t) : (lastB L (k + 1)).getD (posL L (k + 1) t - 1) false = true := by
  have hp := posL_pos L (k + 1) h0
  by_cases e : t = L.length
  · subst e
    have := getD_cl_last (l := levB L (k + 1) L.length) (by rw [levB_posL]; omega)
    rw [levB_posL] at this
    exact this
  · have hf : fK L t ≤ k := hb.resolve_left e
    have e1 := last_keep L (k + 1) (show t + 1 ≤ L.length by omega) (posL L (k + 1) t - 1) (by rw [posL_yes (show fK L t ≤ k + 1 by omega)]; omega)
    rw [e1]
    simp only [levB]
    rw [if_pos (by omega)]
    have hl := levB_posL L (k + 1) t
    rw [getD_appl (by rw [clB_len]; omega)]
    have := getD_cl_last (l := levB L (k + 1) t) (by omega)
    rw [hl] at this
    exact this
/-- The rank of an entry is the entry above it. -/
theorem last_rank (L : List Qd) (k : Nat) {t : Nat} (ht : t < L.length) : cntB (packB (lastB L (k + 1))) (posL L (k + 1) (t + 1) - 1) = posL L k (t + 1) - 1 := by
  obtain ⟨h1, h2⟩ := levB_cnt L k (t + 1)
  have h2 := h2 (by omega)
  have hp := posL_pos L (k + 1) (show 0 < t + 1 by omega)
  rw [cb_cnt, cb_ext (m := levB L (k + 1) (t + 1)) (fun j hj => last_keep L (k + 1) (by omega) j (by omega))]
  obtain ⟨m, hm⟩ : ∃ m, posL L (k + 1) (t + 1) = m + 1 := ⟨posL L (k + 1) (t + 1) - 1, by omega⟩
  rw [hm, Nat.add_sub_cancel] at h2 ⊢
  rw [hm, cb_succ, h2] at h1
  simpa using h1
theorem last_all (L : List Qd) (k : Nat) : cntB (packB (lastB L (k + 1))) (posL L (k + 1) L.length) = posL L k L.length := by
  rcases Nat.eq_zero_or_pos L.length with h | h
  · rw [h]; rfl
  · obtain ⟨n, hn⟩ : ∃ n, L.length = n + 1 := ⟨L.length - 1, by omega⟩
    have h1 := last_rank L k (show n < L.length by omega)
    have h2 := last_set L k h (Nat.le_refl _) (bdL_end L k)
    have hp := posL_pos L (k + 1) h
    have hp0 := posL_pos L k h
    rw [← hn] at h1
    obtain ⟨m, hm⟩ : ∃ m, posL L (k + 1) L.length = m + 1 := ⟨posL L (k + 1) L.length - 1, by omega⟩
    rw [hm, Nat.add_sub_cancel] at h1 h2
    rw [hm, cb_cnt, cb_succ, ← cb_cnt, h1, h2]
    simp only [if_true]; omega
end Go.Tk
/- The document's told, up, Numbers, Data. -/
namespace Go.Proofs.Ytgajpekolamjbaa
open Go.RowKit Go.Tk
theorem SlI.cut8 {w : World} {a : Option Addr} {c : Nat} {l : List UInt8} {m : Nat} (h : SlI .u8 w a l.length c (nums l)) (hm : 8 + m ≤ l.length) : ∃ ad cd, (if c = 8 then a else Option.map (fun x => x.add 8) a) = ad ∧ c - 8 = cd ∧ SlI .u8 w ad m cd (nums ((l.drop 8).take m)) := by
  have := h.cut 8 m hm
  rw [show 8 + m - 8 = m by omega, nums_cut] at this
  exact ⟨_, _, rfl, rfl, this⟩
/-- The data of bytes whose head says n. -/
def daB (bs : List UInt8) (n : Nat) : List UInt8 := (bs.drop 8).take ((n + 7) / 8)
theorem da_bt (bs : List UInt8) (n i : Nat) (hi : i < 8 * ((n + 7) / 8)) : btB (daB bs n) i = btB (datB bs) i := by
  unfold btB daB datB
  rw [List.getD_eq_getElem?_getD, List.getD_eq_getElem?_getD, List.getElem?_take, if_pos (by omega)]
theorem da_len (bs : List UInt8) (n : Nat) (h : 8 + (n + 7) / 8 ≤ bs.length) : (daB bs n).length = (n + 7) / 8 := by
  unfold daB; simp; omega
end Go.Proofs.Ytgajpekolamjbaa
/- Open of any bytes. -/
namespace Go.Proofs.Ytgajpekolamjbaa
open Go.RowKit Go.Tk
/-- What Open says of bytes: a place and a number (0, 0: a vector). -/
def OpenR (bs : List UInt8) (x y : Nat) : Prop :=
  ((shF bs).2 ≠ 0 ∧ x = (shF bs).1 ∧ y = (shF bs).2) ∨
  ((shF bs).2 = 0 ∧ padB (daB bs (f4 bs 0)) (f4 bs 0) = false ∧ x = oG (f4 bs 0) - 1 ∧ y = 12) ∨
  ((shF bs).2 = 0 ∧ padB (daB bs (f4 bs 0)) (f4 bs 0) = true ∧ cntB (daB bs (f4 bs 0)) (f4 bs 0) ≠ f4 bs 4 ∧ x = 4 ∧ y = 20) ∨
  ((shF bs).2 = 0 ∧ padB (daB bs (f4 bs 0)) (f4 bs 0) = true ∧ cntB (daB bs (f4 bs 0)) (f4 bs 0) = f4 bs 4 ∧ ∃ f L, FirstS bs (daB bs (f4 bs 0)) (f4 bs 0) L f ∧ (∀ t, t ∈ L ↔ Vt (daB bs (f4 bs 0)) (f4 bs 0) t) ∧
    ((f ≠ -1 ∧ (x : Int) = f ∧ y = 20) ∨ (f = -1 ∧ oE (f4 bs 0) (f4 bs 4) < bs.length ∧ x = oE (f4 bs 0) (f4 bs 4) ∧ y = 13) ∨ (f = -1 ∧ bs.length = oE (f4 bs 0) (f4 bs 4) ∧ x = 0 ∧ y = 0)))
theorem data_any (w : World) (gv : Nat) (a : Option Addr) (c : Nat) (bs : List UInt8) (N m : Nat) (hv : VecL w gv a c bs N m) :
    Calls Try.prog 111 #[.pointer (some ⟨gv, 0, none⟩)] w fun e w' => ∃ ad cd, e = .returned (.slice ad ((N + 7) / 8) cd) ∧ SlI .u8 w ad ((N + 7) / 8) cd (nums (daB bs N)) ∧ (∀ x, ad = some x → x.block < w.heap.size) ∧ ∃ k, w' = w.drewN k := by
  have hfit := hv.fit
  have h8 : 8 + (N + 7) / 8 ≤ bs.length := by unfold oE oM oS oG at hfit; omega
  obtain ⟨b, o, rfl, hc⟩ := hv.sl.cell 0 (by omega)
  have hbl := block_lt_of_cell hc
  obtain ⟨ad, cd, e1, e2, h3⟩ := SlI.cut8 hv.sl h8
  have hG : oG N = 8 + (N + 7) / 8 := rfl
  have k0 : w.cell? ⟨gv, 0, none⟩ = _ := cell_of_row w gv 0 _ _ _ hv.row
  have k3 : w.cell? ⟨gv, 3, none⟩ = some (.int .i64 8) := cell_of_row w gv 3 _ _ _ hv.row
  have k4 : w.cell? ⟨gv, 4, none⟩ = some (.int .i64 (oG N : Nat)) := cell_of_row w gv 4 _ _ _ hv.row
  have h2 := data_go w gv b o bs.length c (oG N) (by omega) (by omega) hv.sl.le hv.sl.max k0 k3 k4
  have e3 : (if c = 8 then (some ⟨b, o, none⟩ : Option Addr) else some ⟨b, o + 8, none⟩) = ad := by rw [← e1]; split <;> rfl
  rw [e3, e2, show oG N - 8 = (N + 7) / 8 by omega] at h2
  refine h2.mono fun e w' ⟨g1, g2⟩ => ⟨ad, cd, g1, h3, ?_, g2⟩
  intro x hx
  rw [← e3] at hx
  split at hx
  · cases hx; exact hbl
  · cases hx; exact hbl
set_option maxRecDepth 100000 in
set_option maxHeartbeats 4000000 in
theorem open_any (w : World) (a : Option Addr) (c : Nat) (bs : List UInt8) (hs : SlI .u8 w a bs.length c (nums bs)) :
    Calls Try.prog 93 #[.slice a bs.length c] w fun e w' => ∃ p v x y, e = .returned (.tuple #[.pointer p, v]) ∧ OpenR bs x y ∧ EV w' v (x : Nat) (y : Nat) ∧ Below w.heap.size w w' ∧
      ((y ≠ 0 ∧ p = none) ∨ (y = 0 ∧ ∃ gv, p = some ⟨gv, 0, none⟩ ∧ VecAt w' gv a c bs (f4 bs 0) (f4 bs 4))) := by
  by_cases he : (shF bs).2 ≠ 0
  · have hS := shape_no w a c bs hs he
    have hR : OpenR bs (shF bs).1 (shF bs).2 := .inl ⟨he, rfl, rfl⟩
    obtain ⟨x, hx⟩ : ∃ x, x = (shF bs).1 := ⟨_, rfl⟩
    obtain ⟨y, hy⟩ : ∃ y, y = (shF bs).2 := ⟨_, rfl⟩
    rw [← hx, ← hy] at hS hR
    rw [← hy] at he
    have hy0 : (y : Int) ≠ 0 := by omega
    have H := Lib.hid hS
    have HR := Lib.hid hR
    clear hS hs hx hy hR
    go_enter Try.func93, Try.ntmps93
    go_wp2_with (go_at_call 97; (with_reducible refine H.out.mono ?_); rintro e w1 ⟨v, rfl, hv, hb⟩; obtain ⟨i, rfl⟩ := hv.some hy0; (have HV := Lib.hid hv); (have HB := Lib.hid hb); clear hv hb)
    go_ret2
    exact ⟨none, _, x, y, rfl, HR.out, HV.out, HB.out, .inl ⟨he, rfl⟩⟩
  have he0 : (shF bs).2 = 0 := by simpa using he
  obtain ⟨h8, hN, hm, hE, _⟩ := shF_ok he0
  have hS := shape_yes w a c bs hs he0
  have hE8 : 8 + (f4 bs 0 + 7) / 8 ≤ bs.length := by unfold oE oM oS oG at hE; omega
  have hdl := da_len bs (f4 bs 0) hE8
  have hGb : 8 ≤ oG (f4 bs 0) ∧ oG (f4 bs 0) ≤ 100000000 := by unfold oG; omega
  have hEb : oE (f4 bs 0) (f4 bs 4) ≤ 1000000000 := by unfold oE oM oS oG; omega
  have hR1 := fun h => (show OpenR bs (oG (f4 bs 0) - 1) 12 from .inr (.inl ⟨he0, h, rfl, rfl⟩))
  have hR2 := fun h h2 => (show OpenR bs 4 20 from .inr (.inr (.inl ⟨he0, h, h2, rfl, rfl⟩)))
  have hR3 := fun x y h h2 h3 => (show OpenR bs x y from .inr (.inr (.inr ⟨he0, h, h2, h3⟩)))
  have hVL := fun (w' : World) gv (h : VRow w' gv a bs.length c (f4 bs 0) (f4 bs 4) 8 (oG (f4 bs 0) : Nat) (oS (f4 bs 0) : Nat) (oM (f4 bs 0) : Nat) (oE (f4 bs 0) (f4 bs 4) : Nat)) hb => (show VecL w' gv a c bs (f4 bs 0) (f4 bs 4) from ⟨h, hs.keep hb, hE, hm, hN⟩)
  obtain ⟨d, hd⟩ : ∃ d, d = daB bs (f4 bs 0) := ⟨_, rfl⟩
  rw [← hd] at hR1 hR2 hR3 hdl
  have hda := fun w' gv h => data_any w' gv a c bs (f4 bs 0) (f4 bs 4) h
  rw [← hd] at hda
  obtain ⟨N, hNN⟩ : ∃ N, N = f4 bs 0 := ⟨_, rfl⟩
  obtain ⟨m, hmm⟩ : ∃ m, m = f4 bs 4 := ⟨_, rfl⟩
  rw [← hNN] at hS hN hm hE hdl hGb hEb hR1 hR2 hR3 hVL hda ⊢
  rw [← hmm] at hS hm hE hEb hR2 hR3 hVL hda ⊢
  obtain ⟨bf, hbf⟩ : ∃ bf, bf = ((bs.length : Int) == (oE N m : Nat)) := ⟨_, rfl⟩
  rw [← hbf] at hS
  have habk : ∀ x, a = some x → x.block < w.heap.size := fun x hx => by
    obtain ⟨b, o, e, hc⟩ := hs.cell 0 (by omega)
    rw [hx] at e
    cases e
    exact block_lt_of_cell hc
  have H := Lib.hid hS
  have HVL := Lib.hid hVL
  have HDA := Lib.hid hda
  have HR1 := Lib.hid hR1
  have HR2 := Lib.hid hR2
  have HR3 := Lib.hid hR3
  have HDL := Lib.hid hdl
  have HBF := Lib.hid hbf
  have HAB := Lib.hid habk
  clear hS hs he he0 hd hNN hmm hbf hVL hda hR1 hR2 hR3 hdl habk hE8
  go_enter Try.func93, Try.ntmps93
  go_upto_region 4 with (go_at_call 97; (with_reducible refine H.out.mono ?_); rintro e w1 ⟨gv, rfl, hgv, hv, hb⟩; (have HV := Lib.hid (HVL.out _ _ hv hb)); (have HB := Lib.hid hb); clear hv hb hgv)
  clear H HVL
  have HDG := Lib.hid (HDA.out _ _ HV.out)
  clear HDA
  go_upto_region 5 with (go_at_call 111; (with_reducible refine HDG.out.mono ?_); rintro e w2 ⟨ad, cd, rfl, hsl, hdb, k, hw2⟩; (have HW2 := Lib.hid hw2); (have HSL := Lib.hid hsl); (have HDB := Lib.hid hdb); clear hsl hdb hw2)
  have hv2 : VecL w2 gv a c bs N m := by rw [HW2.out]; exact HV.out.drewN k
  have hs2 : SlI .u8 w2 ad ((N + 7) / 8) cd (nums d) := by rw [HW2.out]; exact HSL.out.drewN k
  have hb2 : Below w.heap.size w w2 := by rw [HW2.out]; exact below_drewN HB.out k
  have hdb2 : ∀ x, ad = some x → x.block < w2.heap.size := by rw [HW2.out]; exact HDB.out
  have hab2 : ∀ x, a = some x → x.block < w2.heap.size := fun x hx => Nat.lt_of_lt_of_le (HAB.out x hx) hb2.size
  have hpd := padded_calls w2 ad _ cd d N hs2 HDL.out hN
  have k1 : w2.cell? ⟨gv, 1, none⟩ = some (.int .i64 (N : Nat)) := cell_of_row w2 gv 1 _ _ _ hv2.row
  have k2 : w2.cell? ⟨gv, 2, none⟩ = some (.int .i64 (m : Nat)) := cell_of_row w2 gv 2 _ _ _ hv2.row
  have k4 : w2.cell? ⟨gv, 4, none⟩ = some (.int .i64 (oG N : Nat)) := cell_of_row w2 gv 4 _ _ _ hv2.row
  have hct := fun q => count_calls (w2.drewN q) ad _ cd d (hs2.drewN q) (by omega)
  have HV2 := Lib.hid hv2
  have HS2 := Lib.hid hs2
  have HB2 := Lib.hid hb2
  have HDB2 := Lib.hid hdb2
  have HAB2 := Lib.hid hab2
  clear HV HSL HB HDB HW2 HDG hv2 hs2 hb2 hdb2 hab2 HAB
  cases hpb : padB d N with
  | false =>
    rw [hpb] at hpd
    have HPD := Lib.hid hpd
    have HPB := Lib.hid hpb
    clear hpd hpb hct
    obtain ⟨G, hG⟩ : ∃ G, G = oG N := ⟨_, rfl⟩
    rw [← hG] at k4 hGb
    have HG := Lib.hid hG
    clear hG
    go_wp2_with (first
      | (go_at_call 80; (with_reducible refine HPD.out.mono ?_); rintro e w3 ⟨rfl, rfl⟩)
      | (go_at_call 98; (with_reducible refine (wrong_calls _ _ _).mono ?_); rintro e w9 ⟨b9, rfl, hb9, hr9, hbe9⟩; (have HR9 := Lib.hid hr9); (have HBE9 := Lib.hid hbe9); clear hr9 hbe9))
    go_ret2
    refine ⟨none, _, _, _, rfl, HR1.out HPB.out, ?_, HB2.out.trans (HBE9.out.mono HB2.out.size), .inl ⟨by decide, rfl⟩⟩
    refine .inr ⟨_, by decide, rfl, ?_⟩
    rw [← HG.out, Int.natCast_sub (by omega)]
    exact HR9.out
  | true =>
    rw [hpb] at hpd
    have hce := cnt_pad d N HDL.out hpb
    rw [HDL.out] at hce
    simp only [hce] at hct
    have HPD := Lib.hid hpd
    have HPB := Lib.hid hpb
    have HCT := Lib.hid (fun q => (hct q).mono fun _ _ ⟨h1, h2⟩ => (show _ ∧ ∃ m, _ = w2.drewN m from ⟨h1, q, h2.symm⟩))
    clear hpd hpb hct hce
    obtain ⟨C, hC⟩ : ∃ C, C = cntB d N := ⟨_, rfl⟩
    rw [← hC] at HCT HR2 HR3
    have hCb := cnt_le d N
    rw [← hC] at hCb
    go_upto_region 7 with (go_at_call 80; (with_reducible refine HPD.out.mono ?_); rintro e w3 ⟨rfl, rfl⟩)
    have HC := Lib.hid hC
    clear hC
    go_quiet ((go_at_call 81; exact HCT.out _))
    by_cases hCm : C = m
    · have e1 : ((C : Int) != (m : Int)) = false := by simp; omega
      have hsp := spoilt_any (w2.drewN nq) gv a c bs d N m HDL.out HPB.out (by rw [← HC.out]; exact hCm) (HV2.out.drewN nq) ad _ cd (HS2.out.drewN nq) HAB2.out HDB2.out
      have HSP := Lib.hid hsp
      have HCM := Lib.hid hCm
      clear hsp hCm
      go_upto_region 10 with (go_at_call 112; (with_reducible refine HSP.out.mono ?_); rintro e w5 ⟨f, L, rfl, hfs, hL, hb⟩; (have HFS := Lib.hid hfs); (have HLL := Lib.hid hL); (have HV5 := Lib.hid ((HV2.out.drewN nq).below hb)); (have HB5 := Lib.hid ((below_drewN HB2.out nq).trans (hb.mono (below_drewN HB2.out nq).size))); clear hfs hL hb)
      have hfb := HFS.out.bd (fun t h => (HLL.out t).1 h)
      clear HSP HCT HPD HV2 HS2
      by_cases hf : f = -1
      · subst hf
        have k7 : w5.cell? ⟨gv, 7, none⟩ = some (.int .i64 (oE N m : Nat)) := cell_of_row w5 gv 7 _ _ _ HV5.out.row
        by_cases hgt : oE N m < bs.length
        · have hbf : bf = false := by rw [HBF.out]; simp; omega
          subst hbf
          have hres := HR3.out (oE N m) 13 HPB.out HCM.out ⟨-1, L, HFS.out, HLL.out, .inr (.inl ⟨rfl, hgt, rfl, rfl⟩)⟩
          have HRES := Lib.hid hres
          clear hres hgt
          go_wp2_with (go_at_call 98; (with_reducible refine (wrong_calls _ _ _).mono ?_); rintro e w9 ⟨b9, rfl, hb9, hr9, hbe9⟩; (have HR9 := Lib.hid hr9); (have HBE9 := Lib.hid hbe9); clear hr9 hbe9)
          go_ret2
          exact ⟨none, _, _, _, rfl, HRES.out, .inr ⟨_, by decide, rfl, HR9.out⟩, HB5.out.trans (HBE9.out.mono HB5.out.size), .inl ⟨by decide, rfl⟩⟩
        · have hbeq : bs.length = oE N m := by omega
          have hbf : bf = true := by rw [HBF.out, hbeq]; simp
          subst hbf
          have hres := HR3.out 0 0 HPB.out HCM.out ⟨-1, L, HFS.out, HLL.out, .inr (.inr ⟨rfl, hbeq, rfl, rfl⟩)⟩
          have HRES := Lib.hid hres
          have HVA := Lib.hid (HV5.out.at hbeq)
          clear hres hgt hbeq
          go_wp2_with fail
          go_ret2
          exact ⟨_, _, 0, 0, rfl, HRES.out, EV.nil _, HB5.out, .inr ⟨rfl, gv, rfl, HVA.out⟩⟩
      · have hf0 : 0 ≤ f := by omega
        obtain ⟨x, rfl⟩ : ∃ x : Nat, f = x := ⟨f.toNat, by omega⟩
        have hres := HR3.out x 20 HPB.out HCM.out ⟨x, L, HFS.out, HLL.out, .inl ⟨hf, rfl, rfl⟩⟩
        have HRES := Lib.hid hres
        clear hres hf hf0
        go_wp2_with (go_at_call 98; (with_reducible refine (wrong_calls _ _ _).mono ?_); rintro e w9 ⟨b9, rfl, hb9, hr9, hbe9⟩; (have HR9 := Lib.hid hr9); (have HBE9 := Lib.hid hbe9); clear hr9 hbe9)
        go_ret2
        exact ⟨none, _, _, _, rfl, HRES.out, .inr ⟨_, by decide, rfl, HR9.out⟩, HB5.out.trans (HBE9.out.mono HB5.out.size), .inl ⟨by decide, rfl⟩⟩
    · have e1 : ((C : Int) != (m : Int)) = true := by simp; omega
      go_wp2_with (go_at_call 98; (with_reducible refine (wrong_calls _ _ _).mono ?_); rintro e w9 ⟨b9, rfl, hb9, hr9, hbe9⟩; (have HR9 := Lib.hid hr9); (have HBE9 := Lib.hid hbe9); clear hr9 hbe9)
      go_ret2
      exact ⟨none, _, _, _, rfl, HR2.out HPB.out hCm, .inr ⟨_, by decide, rfl, HR9.out⟩, (below_drewN HB2.out nq).trans (HBE9.out.mono (below_drewN HB2.out nq).size), .inl ⟨by decide, rfl⟩⟩
end Go.Proofs.Ytgajpekolamjbaa
/- What Open takes is what Build makes; a changed byte, a cut. Plain. -/
namespace Go.Proofs.Ytgajpekolamjbaa
open Go Go.RowKit Go.Tk
theorem f4_dig (l : List UInt8) (o r : Nat) (hr : r < 4) : f4 l o / 256 ^ r % 256 = (l.getD (o + r) 0).toNat := by
  have h0 := UInt8.toNat_lt (l.getD o 0)
  have h1 := UInt8.toNat_lt (l.getD (o + 1) 0)
  have h2 := UInt8.toNat_lt (l.getD (o + 2) 0)
  have h3 := UInt8.toNat_lt (l.getD (o + 3) 0)
  have e0 : (256 : Nat) ^ 0 = 1 := rfl
  have e1 : (256 : Nat) ^ 1 = 256 := rfl
  have e2 : (256 : Nat) ^ 2 = 65536 := rfl
  have e3 : (256 : Nat) ^ 3 = 16777216 := rfl
  unfold f4
  have : r = 0 ∨ r = 1 ∨ r = 2 ∨ r = 3 := by omega
  rcases this with rfl | rfl | rfl | rfl
  · simp only [e0, Nat.add_zero, Nat.div_one]; omega
  · rw [e1]; omega
  · rw [e2]; omega
  · rw [e3]; omega
theorem f2_dig (l : List UInt8) (o r : Nat) (hr : r < 2) : f2 l o / 256 ^ r % 256 = (l.getD (o + r) 0).toNat := by
  have h0 := UInt8.toNat_lt (l.getD o 0)
  have h1 := UInt8.toNat_lt (l.getD (o + 1) 0)
  have e0 : (256 : Nat) ^ 0 = 1 := rfl
  have e1 : (256 : Nat) ^ 1 = 256 := rfl
  unfold f2
  have : r = 0 ∨ r = 1 := by omega
  rcases this with rfl | rfl
  · simp only [e0, Nat.add_zero, Nat.div_one]; omega
  · rw [e1]; omega
theorem u8_eq {a b : UInt8} (h : a.toNat = b.toNat) : a = b := UInt8.toNat_inj.1 h
/-- Where all numbers are right all bytes are. -/
theorem num_all {bs d : List UInt8} {N : Nat} (h : ∀ t, Vt d N t → numT bs d N t = t.2.2) (i : Nat) (h1 : grO d ≤ i) (h2 : i < enO d N) : bs.getD i 0 = (whB d N).getD i 0 := by
  obtain ⟨t, ht, a, b⟩ := wh_cover d N i h1 h2
  have hn := h t ht
  have hw := getD_nums ((wh_at ht).2 (i - posT d N t) (by omega))
  rw [show posT d N t + (i - posT d N t) = i by omega] at hw
  apply u8_eq
  rw [hw, ← hn]
  unfold numT
  by_cases h6 : t.1 = 256
  · have hs : szT t = 2 := by unfold szT; rw [if_pos h6]
    rw [if_pos h6, f2_dig _ _ _ (by omega), show posT d N t + (i - posT d N t) = i by omega]
  · have hs : szT t = 4 := by unfold szT; rw [if_neg h6]
    rw [if_neg h6, f4_dig _ _ _ (by omega), show posT d N t + (i - posT d N t) = i by omega]
theorem list_getD {l m : List UInt8} (hl : l.length = m.length) (h : ∀ i, i < l.length → l.getD i 0 = m.getD i 0) : l = m := by
  apply List.ext_getElem hl
  intro i h1 h2
  have := h i h1
  rwa [List.getD_eq_getElem?_getD, List.getD_eq_getElem?_getD, List.getElem?_eq_getElem h1, List.getElem?_eq_getElem h2] at this
theorem wh_lo (d : List UInt8) (N i : Nat) (hi : i < d.length) : (whB d N).getD (8 + i) 0 = d.getD i 0 := by
  obtain ⟨t, ht⟩ := dat_wh d N
  have : (whB d N).getD (8 + i) 0 = (datB (whB d N)).getD i 0 := by unfold datB; rw [drop_getD]
  rw [this, ht, List.getD_eq_getElem?_getD, List.getElem?_append_left hi, ← List.getD_eq_getElem?_getD]
theorem wh_hd (d : List UInt8) (N i : Nat) (hi : i < 4) (hN : N ≤ 67108864) : ((whB d N).getD i 0).toNat = N / 256 ^ i % 256 ∧ ((whB d N).getD (4 + i) 0).toNat = cntB d N / 256 ^ i % 256 := by
  obtain ⟨h1, h2⟩ := wh_head d N i hi
  rw [Nat.zero_add] at h1
  exact ⟨getD_nums h1, getD_nums h2⟩
/-- What Open takes is what Build makes. -/
theorem open_is {bs : List UInt8} {x : Nat} (h : OpenR bs x 0) : f4 bs 0 ≤ 67108864 ∧ 8 + (f4 bs 0 + 7) / 8 ≤ bs.length ∧ (daB bs (f4 bs 0)).length = (f4 bs 0 + 7) / 8 ∧ padB (daB bs (f4 bs 0)) (f4 bs 0) = true ∧ bs = whB (daB bs (f4 bs 0)) (f4 bs 0) := by
  rcases h with ⟨h0, _, h1⟩ | ⟨_, _, _, h1⟩ | ⟨_, _, _, _, h1⟩ | ⟨h0, hp, hc, f, L, hf, hL, hr⟩
  · exact absurd h1.symm h0
  · cases h1
  · cases h1
  rcases hr with ⟨_, _, h1⟩ | ⟨_, _, _, h1⟩ | ⟨rfl, hlen, _, _⟩
  · cases h1
  · cases h1
  obtain ⟨h8, hN, hm, hE, _⟩ := shF_ok h0
  have hE8 : 8 + (f4 bs 0 + 7) / 8 ≤ bs.length := by unfold oE oM oS oG at hE; omega
  have hdl := da_len bs (f4 bs 0) hE8
  refine ⟨hN, hE8, hdl, hp, ?_⟩
  obtain ⟨e1, e2, e3, e4⟩ := o_eq hdl
  have hall : ∀ t, Vt (daB bs (f4 bs 0)) (f4 bs 0) t → numT bs (daB bs (f4 bs 0)) (f4 bs 0) t = t.2.2 := by
    rcases hf with ⟨_, h⟩ | ⟨t, _, _, h, _⟩
    · exact fun t ht => h t ((hL t).2 ht)
    · omega
  have hle : bs.length = enO (daB bs (f4 bs 0)) (f4 bs 0) := by rw [hlen, ← e4, hc]
  apply list_getD
  · rw [wh_len', hle]
  intro i hi
  by_cases a : grO (daB bs (f4 bs 0)) ≤ i
  · exact num_all hall i a (by omega)
  have hg : grO (daB bs (f4 bs 0)) = 8 + (f4 bs 0 + 7) / 8 := by unfold grO; rw [hdl]
  by_cases b : 8 ≤ i
  · obtain ⟨k, rfl⟩ : ∃ k, i = 8 + k := ⟨i - 8, by omega⟩
    rw [wh_lo _ _ _ (by omega)]
    unfold daB
    rw [List.getD_eq_getElem?_getD, List.getD_eq_getElem?_getD, List.getElem?_take, if_pos (by omega), List.getElem?_drop]
  · by_cases c : i < 4
    · apply u8_eq
      rw [(wh_hd _ _ i c hN).1, f4_dig bs 0 i c, Nat.zero_add]
    · obtain ⟨k, rfl⟩ : ∃ k, i = 4 + k := ⟨i - 4, by omega⟩
      apply u8_eq
      rw [(wh_hd _ _ k (by omega) hN).2, hc, f4_dig bs 4 k (by omega)]
theorem f4_congr {l m : List UInt8} {o : Nat} (h : ∀ r, r < 4 → l.getD (o + r) 0 = m.getD (o + r) 0) : f4 l o = f4 m o := by
  unfold f4
  rw [← h 1 (by omega), ← h 2 (by omega), ← h 3 (by omega)]
  have := h 0 (by omega)
  rw [Nat.add_zero] at this
  rw [← this]
/-- Right bytes cut short. -/
theorem open_cut {d : List UInt8} {N i x y : Nat} (hl : d.length = (N + 7) / 8) (hN : N ≤ 67108864) (hi : i < enO d N) (h : OpenR ((whB d N).take i) x y) : y ≠ 0 := by
  have hlen : ((whB d N).take i).length = i := by rw [List.length_take, wh_len']; omega
  have hs : (shF ((whB d N).take i)).2 = 10 := by
    unfold shF
    by_cases h8 : i < 8
    · rw [if_pos (by omega)]
    · have hg : ∀ j, j < 8 → ((whB d N).take i).getD j 0 = (whB d N).getD j 0 := fun j hj => by
        rw [List.getD_eq_getElem?_getD, List.getElem?_take, if_pos (by omega), ← List.getD_eq_getElem?_getD]
      have h0 : f4 ((whB d N).take i) 0 = N := by rw [f4_congr (fun r hr => hg (0 + r) (by omega)), wh_n hN]
      have h4 : f4 ((whB d N).take i) 4 = cntB d N := by rw [f4_congr (fun r hr => hg (4 + r) (by omega)), wh_m hN]
      have hc := cnt_le d N
      obtain ⟨_, _, _, e4⟩ := o_eq hl
      rw [if_neg (by omega), h0, h4, if_neg (by omega), if_neg (by omega), if_pos (by omega)]
  rcases h with ⟨_, _, h1⟩ | ⟨h1, _⟩ | ⟨h1, _⟩ | ⟨h1, _⟩
  · rw [h1, hs]; decide
  · rw [hs] at h1; cases h1
  · rw [hs] at h1; cases h1
  · rw [hs] at h1; cases h1
/-- Right bytes, one of the directories changed. -/
theorem open_set {d : List UInt8} {N j x y : Nat} {u : UInt8} (hl : d.length = (N + 7) / 8) (hp : padB d N = true) (hN : N ≤ 67108864) (h1 : grO d ≤ j) (h2 : j < enO d N) (hu : u ≠ (whB d N).getD j 0) (h : OpenR ((whB d N).set j u) x y) : y ≠ 0 := by
  obtain ⟨bs, hbs⟩ : ∃ bs, bs = (whB d N).set j u := ⟨_, rfl⟩
  rw [← hbs] at h
  intro hy
  subst hy
  obtain ⟨g1, g2, g3, g4, g5⟩ := open_is h
  have hne : ∀ i, i ≠ j → bs.getD i 0 = (whB d N).getD i 0 := fun i hi => by
    rw [hbs, List.getD_eq_getElem?_getD, List.getElem?_set_ne (fun e => hi e.symm), ← List.getD_eq_getElem?_getD]
  have hg : grO d = 8 + d.length := rfl
  have h0 : f4 bs 0 = N := by rw [f4_congr (m := whB d N) (fun r hr => hne (0 + r) (by omega)), wh_n hN]
  rw [h0] at g3 g5
  have hd : daB bs N = d := by
    apply list_getD (by rw [g3, hl])
    intro i hi
    have : (daB bs N).getD i 0 = bs.getD (8 + i) 0 := by
      unfold daB
      rw [List.getD_eq_getElem?_getD, List.getD_eq_getElem?_getD, List.getElem?_take, if_pos (by omega), List.getElem?_drop]
    rw [this, hne _ (by omega), wh_lo _ _ _ (by omega)]
  rw [hd] at g5
  apply hu
  have hw : j < (whB d N).length := by rw [wh_len']; exact h2
  rw [← g5, hbs, List.getD_eq_getElem?_getD, List.getElem?_set_self hw]
  rfl
end Go.Proofs.Ytgajpekolamjbaa
