/- Quads that rise, level by level, and the tree's bytes. Plain. -/
import Derived.Test.YtgajpekolamjbaaRkK
import Derived.Test.YtgajpekolamjbaaBitsPackD
import Derived.Test.YtgajpekolamjbaaBitsNum
set_option linter.unusedVariables false
set_option linter.unusedSimpArgs false
namespace Go.Tk
open Go Go.RowKit
/-- Four numbers. -/
structure Qd where
  a : Int
  b : Int
  c : Int
  d : Int
deriving DecidableEq, Inhabited
def Qd.at (q : Qd) : Nat → Int
  | 0 => q.a
  | 1 => q.b
  | 2 => q.c
  | _ => q.d
def okN (k : Nat) (n : Int) : Bool := decide (((min k 1 : Nat) : Int) ≤ n) && decide (n ≤ 4194304)
def okQ (q : Qd) : Bool := okN 0 q.a && okN 1 q.b && okN 2 q.c && okN 3 q.d
/-- The order of two quads. -/
def cmpQ (p q : Qd) : Int :=
  if p.a < q.a then -1 else if q.a < p.a then 1 else if p.b < q.b then -1 else if q.b < p.b then 1 else if p.c < q.c then -1 else if q.c < p.c then 1 else if p.d < q.d then -1 else if q.d < p.d then 1 else 0
def badQ (L : List Qd) : Bool := L.any fun q => !okQ q
def riseQ (L : List Qd) : Bool := (List.range (L.length - 1)).all fun i => decide (cmpQ (L.getD i default) (L.getD (i + 1) default) < 0)
/-- What check says. -/
def chkT (L : List Qd) : Int := if 1048576 < L.length then 2 else if badQ L = true then 180 else if riseQ L = true then 0 else 160
/-- The first level with another number. -/
def fk (p q : Qd) : Nat := if p.a ≠ q.a then 0 else if p.b ≠ q.b then 1 else if p.c ≠ q.c then 2 else if p.d ≠ q.d then 3 else 4
def fK (L : List Qd) (i : Nat) : Nat := if i = 0 then 0 else fk (L.getD (i - 1) default) (L.getD i default)
/-- The numbers of a level behind so many quads. -/
def levN (L : List Qd) (j : Nat) : Nat → List Int
  | 0 => []
  | i + 1 => if fK L i ≤ j then levN L j i ++ [(L.getD i default).at j] else levN L j i
/-- The last one is the last one of its parent. -/
def clB (l : List Bool) : List Bool := l.set (l.length - 1) true
/-- Which of a level's entries are the last ones of their parents. -/
def levB (L : List Qd) (j : Nat) : Nat → List Bool
  | 0 => []
  | i + 1 => if fK L i < j then clB (levB L j i) ++ [false] else if fK L i = j then levB L j i ++ [false] else levB L j i
def lastB (L : List Qd) (j : Nat) : List Bool := clB (levB L j L.length)
/-- The greatest. -/
def mxL (zs : List Int) : Int := zs.foldl max 0
def wdL (zs : List Int) : Int := bw (mxL zs)
theorem clB_len (l : List Bool) : (clB l).length = l.length := by simp [clB]
theorem fk_le (p q : Qd) : fk p q ≤ 4 := by
  unfold fk
  repeat' split
  all_goals omega
theorem fk_lt {p q : Qd} (h : cmpQ p q < 0) : fk p q < 4 := by
  unfold cmpQ at h
  refine Decidable.byContradiction fun hn => ?_
  have e := fk_le p q
  unfold fk at hn e
  by_cases h1 : p.a ≠ q.a
  · rw [if_pos h1] at hn; omega
  rw [if_neg h1] at hn
  by_cases h2 : p.b ≠ q.b
  · rw [if_pos h2] at hn; omega
  rw [if_neg h2] at hn
  by_cases h3 : p.c ≠ q.c
  · rw [if_pos h3] at hn; omega
  rw [if_neg h3] at hn
  by_cases h4 : p.d ≠ q.d
  · rw [if_pos h4] at hn; omega
  simp only [Decidable.not_not] at h1 h2 h3 h4
  rw [h1, h2, h3, h4] at h
  simp at h
theorem fk_eq {p q : Qd} {j : Nat} (h : j < fk p q) : p.at j = q.at j := by
  unfold fk at h
  by_cases h0 : p.a ≠ q.a
  · rw [if_pos h0] at h; omega
  rw [if_neg h0] at h
  simp only [Decidable.not_not] at h0
  by_cases h1 : p.b ≠ q.b
  · rw [if_pos h1] at h; obtain rfl : j = 0 := by omega
    exact h0
  rw [if_neg h1] at h
  simp only [Decidable.not_not] at h1
  by_cases h2 : p.c ≠ q.c
  · rw [if_pos h2] at h
    rcases (by omega : j = 0 ∨ j = 1) with rfl | rfl
    · exact h0
    · exact h1
  rw [if_neg h2] at h
  simp only [Decidable.not_not] at h2
  by_cases h3 : p.d ≠ q.d
  · rw [if_pos h3] at h
    rcases (by omega : j = 0 ∨ j = 1 ∨ j = 2) with rfl | rfl | rfl
    · exact h0
    · exact h1
    · exact h2
  rw [if_neg h3] at h
  simp only [Decidable.not_not] at h3
  rcases (by omega : j = 0 ∨ j = 1 ∨ j = 2 ∨ j = 3) with rfl | rfl | rfl | rfl
  · exact h0
  · exact h1
  · exact h2
  · exact h3
theorem fk_ne {p q : Qd} (h : fk p q < 4) : p.at (fk p q) ≠ q.at (fk p q) := by
  unfold fk at h ⊢
  by_cases h0 : p.a ≠ q.a
  · rw [if_pos h0]; exact h0
  rw [if_neg h0] at h ⊢
  by_cases h1 : p.b ≠ q.b
  · rw [if_pos h1]; exact h1
  rw [if_neg h1] at h ⊢
  by_cases h2 : p.c ≠ q.c
  · rw [if_pos h2]; exact h2
  rw [if_neg h2] at h ⊢
  by_cases h3 : p.d ≠ q.d
  · rw [if_pos h3]; exact h3
  rw [if_neg h3] at h
  omega
theorem fk_is {p q : Qd} {j : Nat} (h4 : j < 4) (he : ∀ i, i < j → p.at i = q.at i) (hn : p.at j ≠ q.at j) : fk p q = j := by
  rcases Nat.lt_trichotomy (fk p q) j with h | h | h
  · exact absurd (he _ h) (fk_ne (by omega))
  · exact h
  · exact absurd (fk_eq h) hn
theorem levN_len (L : List Qd) (j : Nat) : ∀ i, (levN L j i).length ≤ i
  | 0 => by simp [levN]
  | i + 1 => by
    have := levN_len L j i
    simp only [levN]
    split
    · simp; omega
    · omega
theorem levB_len (L : List Qd) (j : Nat) : ∀ i, (levB L j i).length = (levN L j i).length
  | 0 => by simp [levN, levB]
  | i + 1 => by
    have := levB_len L j i
    simp only [levN, levB]
    by_cases h1 : fK L i < j
    · rw [if_pos h1, if_pos (by omega)]; simp [clB_len, this]
    · rw [if_neg h1]
      by_cases h2 : fK L i = j
      · rw [if_pos h2, if_pos (by omega)]; simp [this]
      · rw [if_neg h2, if_neg (by omega), this]
theorem okN_iff (k : Nat) (n : Int) : okN k n = true ↔ ((min k 1 : Nat) : Int) ≤ n ∧ n ≤ 4194304 := by
  unfold okN; rw [Bool.and_eq_true, decide_eq_true_iff, decide_eq_true_iff]
theorem okQ_at {q : Qd} (h : okQ q = true) : ∀ j, 0 ≤ q.at j ∧ q.at j ≤ 4194304 := by
  unfold okQ at h
  simp only [Bool.and_eq_true, okN_iff] at h
  obtain ⟨⟨⟨h0, h1⟩, h2⟩, h3⟩ := h
  intro j
  rcases (by omega : j = 0 ∨ j = 1 ∨ j = 2 ∨ 3 ≤ j) with rfl | rfl | rfl | hj
  · exact ⟨by have := h0.1; simp [Qd.at]; omega, by have := h0.2; simpa [Qd.at] using this⟩
  · exact ⟨by have := h1.1; simp [Qd.at]; omega, by have := h1.2; simpa [Qd.at] using this⟩
  · exact ⟨by have := h2.1; simp [Qd.at]; omega, by have := h2.2; simpa [Qd.at] using this⟩
  · have e : q.at j = q.d := by unfold Qd.at; split <;> first | omega | rfl
    rw [e]
    exact ⟨by have := h3.1; omega, h3.2⟩
theorem bad_yes {L : List Qd} {i : Nat} (hi : i < L.length) (h : okQ (L.getD i default) = false) : badQ L = true := by
  unfold badQ
  rw [List.any_eq_true]
  refine ⟨L[i], List.getElem_mem hi, ?_⟩
  have : L.getD i default = L[i] := by simp [hi]
  rw [this] at h
  rw [h]; rfl
theorem bad_no {L : List Qd} (h : ∀ i, i < L.length → okQ (L.getD i default) = true) : badQ L = false := by
  unfold badQ
  rw [List.any_eq_false]
  intro s hs
  obtain ⟨i, hi, rfl⟩ := List.mem_iff_getElem.1 hs
  have := h i hi
  have e : L.getD i default = L[i] := by simp [hi]
  rw [e] at this
  rw [this]; simp
theorem riseQ_no {L : List Qd} {i : Nat} (h0 : 0 < i) (hi : i < L.length) (h : 0 ≤ cmpQ (L.getD (i - 1) default) (L.getD i default)) : riseQ L = false := by
  unfold riseQ
  rw [List.all_eq_false]
  refine ⟨i - 1, List.mem_range.2 (by omega), ?_⟩
  rw [show i - 1 + 1 = i by omega]
  intro hd
  have := of_decide_eq_true hd
  omega
theorem riseQ_yes {L : List Qd} (h : ∀ i, 0 < i → i < L.length → cmpQ (L.getD (i - 1) default) (L.getD i default) < 0) : riseQ L = true := by
  unfold riseQ
  rw [List.all_eq_true]
  intro i hi
  have := h (i + 1) (by omega) (by have := List.mem_range.1 hi; omega)
  exact decide_eq_true this
/-- What holds of quads that check takes. -/
structure Right (L : List Qd) : Prop where
  len : L.length ≤ 1048576
  ok : ∀ i, i < L.length → okQ (L.getD i default) = true
  rise : ∀ i, 0 < i → i < L.length → cmpQ (L.getD (i - 1) default) (L.getD i default) < 0
theorem chk_right {L : List Qd} (h : chkT L = 0) : Right L := by
  unfold chkT at h
  by_cases h1 : 1048576 < L.length
  · rw [if_pos h1] at h; omega
  rw [if_neg h1] at h
  by_cases h2 : badQ L = true
  · rw [if_pos h2] at h; omega
  rw [if_neg h2] at h
  by_cases h3 : riseQ L = true
  · refine ⟨by omega, fun i hi => ?_, fun i h0 hi => ?_⟩
    · cases hq : okQ (L.getD i default) with
      | true => rfl
      | false => exact absurd (bad_yes hi hq) h2
    · refine Decidable.byContradiction fun hn => ?_
      rw [riseQ_no h0 hi (by omega)] at h3
      cases h3
  · rw [if_neg h3] at h; omega
theorem right_chk {L : List Qd} (h : Right L) : chkT L = 0 := by
  unfold chkT
  rw [if_neg (by have := h.len; omega), if_neg (by rw [bad_no h.ok]; decide), if_pos (riseQ_yes h.rise)]
theorem Right.fK_lt {L : List Qd} (h : Right L) {i : Nat} (hi : i < L.length) : fK L i < 4 := by
  unfold fK
  by_cases h0 : i = 0
  · rw [if_pos h0]; omega
  · rw [if_neg h0]; exact fk_lt (h.rise i (by omega) hi)
theorem Right.num {L : List Qd} (h : Right L) (j : Nat) : ∀ i, i ≤ L.length → ∀ x ∈ levN L j i, 0 ≤ x ∧ x ≤ 4194304
  | 0, _ => by simp [levN]
  | i + 1, hi => by
    simp only [levN]
    split
    · intro x hx
      rcases List.mem_append.1 hx with hx | hx
      · exact h.num j i (by omega) x hx
      · simp at hx
        rw [hx]
        exact okQ_at (h.ok i (by omega)) j
    · exact h.num j i (by omega)
theorem foldl_max (l : List Int) : ∀ m : Int, m ≤ l.foldl max m ∧ (∀ x ∈ l, x ≤ l.foldl max m) ∧ (l.foldl max m = m ∨ l.foldl max m ∈ l) := by
  induction l with
  | nil => intro m; simp
  | cons a t ih =>
    intro m
    obtain ⟨h1, h2, h3⟩ := ih (max m a)
    simp only [List.foldl_cons]
    refine ⟨by omega, ?_, ?_⟩
    · intro x hx
      rcases List.mem_cons.1 hx with rfl | hx
      · omega
      · exact h2 x hx
    · rcases h3 with h3 | h3
      · rw [h3]
        rcases (by omega : max m a = m ∨ max m a = a) with e | e
        · exact .inl e
        · exact .inr (by rw [e]; exact List.mem_cons_self)
      · exact .inr (List.mem_cons_of_mem _ h3)
theorem mxL_range {zs : List Int} {M : Int} (h : ∀ x ∈ zs, 0 ≤ x ∧ x ≤ M) (hM : 0 ≤ M) : 0 ≤ mxL zs ∧ mxL zs ≤ M := by
  obtain ⟨h1, _, h3⟩ := foldl_max zs 0
  refine ⟨h1, ?_⟩
  unfold mxL
  rcases h3 with e | e
  · rw [e]; exact hM
  · exact (h _ e).2
theorem byte_ext {x y : UInt8} (h : ∀ j, j < 8 → x.toNat.testBit j = y.toNat.testBit j) : x = y := by
  apply UInt8.toNat_inj.1
  apply Nat.eq_of_testBit_eq
  intro j
  by_cases hj : j < 8
  · exact h j hj
  · rw [Nat.testBit_lt_two_pow (Nat.lt_of_lt_of_le (UInt8.toNat_lt x) (Nat.pow_le_pow_right (by decide) (by omega : 8 ≤ j))), Nat.testBit_lt_two_pow (Nat.lt_of_lt_of_le (UInt8.toNat_lt y) (Nat.pow_le_pow_right (by decide) (by omega : 8 ≤ j)))]
theorem bt_ext {d e : List UInt8} (hl : d.length = e.length) (h : ∀ j, j < 8 * d.length → btB d j = btB e j) : d = e := by
  apply List.ext_getElem hl
  intro i h1 h2
  apply byte_ext
  intro j hj
  have := h (8 * i + j) (by omega)
  unfold btB at this
  rw [show (8 * i + j) / 8 = i by omega, show (8 * i + j) % 8 = j by omega] at this
  simpa [h1, h2] using this
/-- A bit more, not set. -/
theorem pack_put (l : List Bool) : packB (l ++ [false]) = if l.length % 8 = 0 then packB l ++ [0] else packB l := by
  have hb : ∀ j, (l ++ [false]).getD j false = l.getD j false := fun j => by
    by_cases h : j < l.length
    · simp [List.getD_eq_getElem?_getD, List.getElem?_append_left h]
    · rw [getD_bool_out l j (by omega)]
      by_cases h2 : j = l.length
      · subst h2; simp
      · rw [getD_bool_out _ j (by simp; omega)]
  apply bt_ext
  · rw [pack_len, List.length_append, List.length_singleton]
    split
    · rw [List.length_append, pack_len, List.length_singleton]; omega
    · rw [pack_len]; omega
  · intro j _
    rw [pack_bt, hb]
    split
    · by_cases hj : j < 8 * (packB l).length
      · rw [bt_app _ _ _ hj, pack_bt]
      · have hl := pack_len l
        rw [getD_bool_out l j (by omega)]
        unfold btB
        by_cases h2 : j / 8 = (packB l).length
        · simp [List.getD_eq_getElem?_getD, h2]
        · simp [List.getD_eq_getElem?_getD, List.getElem?_append_right (show (packB l).length ≤ j / 8 by omega), List.getElem?_eq_none (show [(0 : UInt8)].length ≤ j / 8 - (packB l).length by simp; omega)]
    · rw [pack_bt]
/-- The last bit is set. -/
theorem pack_cl {l : List Bool} (h : 0 < l.length) : packB (clB l) = (packB l).set ((l.length - 1) / 8) (UInt8.ofNat (((packB l).getD ((l.length - 1) / 8) 0).toNat ||| 2 ^ ((l.length - 1) % 8))) := by
  have hl := pack_len l
  apply bt_ext
  · rw [pack_len, clB_len, List.length_set, pack_len]
  · intro j _
    rw [pack_bt]
    unfold clB
    by_cases hq : j / 8 = (l.length - 1) / 8
    · have e : ((packB l).set ((l.length - 1) / 8) (UInt8.ofNat (((packB l).getD ((l.length - 1) / 8) 0).toNat ||| 2 ^ ((l.length - 1) % 8)))).getD (j / 8) 0 = UInt8.ofNat (((packB l).getD ((l.length - 1) / 8) 0).toNat ||| 2 ^ ((l.length - 1) % 8)) := by
        rw [hq, List.getD_eq_getElem?_getD, List.getElem?_set_self (by omega)]; rfl
      have ih' : ((packB l).getD ((l.length - 1) / 8) 0).toNat.testBit (j % 8) = l.getD j false := by rw [← pack_bt l j]; unfold btB; rw [hq]
      unfold btB
      rw [e, or_byte _ _ (UInt8.toNat_lt _) (by omega), Nat.testBit_or, ih', Nat.testBit_two_pow]
      by_cases hjk : j = l.length - 1
      · subst hjk; simp [List.getD_eq_getElem?_getD, List.getElem?_set_self (show l.length - 1 < l.length by omega)]
      · have h8 : ¬ (l.length - 1) % 8 = j % 8 := by omega
        rw [decide_eq_false h8, Bool.or_false, List.getD_eq_getElem?_getD, List.getElem?_set_ne (by omega), ← List.getD_eq_getElem?_getD]
    · have e : ((packB l).set ((l.length - 1) / 8) (UInt8.ofNat (((packB l).getD ((l.length - 1) / 8) 0).toNat ||| 2 ^ ((l.length - 1) % 8)))).getD (j / 8) 0 = (packB l).getD (j / 8) 0 := by
        rw [List.getD_eq_getElem?_getD, List.getElem?_set_ne (fun h => hq h.symm), ← List.getD_eq_getElem?_getD]
      unfold btB
      rw [e]
      have := pack_bt l j
      unfold btB at this
      rw [this, List.getD_eq_getElem?_getD, List.getD_eq_getElem?_getD, List.getElem?_set_ne (fun h => hq (by rw [h]))]
end Go.Tk
namespace Go.Proofs.Ytgajpekolamjbaa
open Go.RowKit Go.Tk
/-- A level's bytes. -/
def secB (L : List Qd) (j : Nat) : List Int :=
  let ns := levN L j L.length
  wdL ns :: (packOut ns (wdL ns) ++ if j = 0 then [] else nums (whB (packB (lastB L j)) ns.length))
def headB (L : List Qd) : List Int :=
  vz ((levN L 0 L.length).length : Nat) ++ vz ((levN L 1 L.length).length : Nat) ++ vz ((levN L 2 L.length).length : Nat) ++ vz ((levN L 3 L.length).length : Nat)
def treeB (L : List Qd) : List Int := headB L ++ secB L 0 ++ secB L 1 ++ secB L 2 ++ secB L 3
def buildTE (L : List Qd) (most : Int) : Int := if chkT L ≠ 0 then chkT L else if most < (treeB L).length then 1 else 0
def buildTO (L : List Qd) (most : Int) : List Int := if buildTE L most = 0 then treeB L else []
end Go.Proofs.Ytgajpekolamjbaa
