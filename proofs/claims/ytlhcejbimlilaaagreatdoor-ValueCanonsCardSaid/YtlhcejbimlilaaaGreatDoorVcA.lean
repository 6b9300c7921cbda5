/- VaN VcA, laid as one. -/
import Derived.Test.YtlhcejbimlilaaaGreatDoorVaM
set_option linter.unusedVariables false
set_option linter.unusedSimpArgs false
/- Days and dates: each day has one date. Plain. -/
namespace Go.Tk
open Go Go.RowKit
def lpN (y : Int) : Int := if lpB y = true then 1 else 0
theorem lpN_bd (y : Int) : 0 ≤ lpN y ∧ lpN y ≤ 1 := by unfold lpN; split <;> omega
theorem lpN_eq (y : Int) : lpN y = y / 4 - (y - 1) / 4 - (y / 100 - (y - 1) / 100) + (y / 400 - (y - 1) / 400) := by
  unfold lpN lpB
  by_cases h4 : y % 4 = 0
  · by_cases h1 : y % 100 = 0
    · by_cases h0 : y % 400 = 0
      · rw [decide_eq_true h4, decide_eq_true h1, decide_eq_true h0]; simp; omega
      · rw [decide_eq_true h4, decide_eq_true h1, decide_eq_false h0]; simp; omega
    · rw [decide_eq_true h4, decide_eq_false h1]; simp; omega
  · rw [decide_eq_false h4]; simp; omega
theorem ydP_succ (y : Int) : ydP (y + 1) = ydP y + 365 + lpN y := by
  rw [lpN_eq]; unfold ydP; rw [show y + 1 - 1 = y by omega]; omega
theorem ydP_le {a b : Int} (h : a ≤ b) : ydP a + 365 * (b - a) ≤ ydP b := by
  obtain ⟨k, rfl⟩ : ∃ k : Nat, b = a + k := ⟨(b - a).toNat, by omega⟩
  clear h
  induction k with
  | zero => simp
  | succ k ih =>
    have h1 := ydP_succ (a + k)
    have h2 := lpN_bd (a + k)
    rw [show a + ((k + 1 : Nat) : Int) = a + k + 1 by omega]
    omega
theorem ydP_lt {a b : Int} (h : a < b) : ydP a < ydP b := by have := ydP_le (a := a) (b := b) (by omega); omega
theorem ydP_bd (y : Int) (h : -1000000010 ≤ y) (h2 : y ≤ 1000000010) : -366000010000 ≤ ydP y ∧ ydP y ≤ 366000010000 := by unfold ydP; omega
theorem mdP_bd (y m : Int) : 28 ≤ mdP y m ∧ mdP y m ≤ 31 := by unfold mdP; split <;> split <;> omega
theorem cmP_bd (y : Int) : ∀ k : Nat, 28 * (k : Int) ≤ cmP y k ∧ cmP y k ≤ 31 * k
  | 0 => by simp [cmP]
  | k + 1 => by
    have h1 := cmP_bd y k
    have h2 := mdP_bd y (k + 1)
    simp only [cmP]
    omega
theorem cmP_succ (y : Int) (m : Int) (h : 1 ≤ m) : cmP y m.toNat = cmP y (m - 1).toNat + mdP y m := by
  obtain ⟨k, rfl⟩ : ∃ k : Nat, m = k + 1 := ⟨(m - 1).toNat, by omega⟩
  rw [show ((k : Int) + 1).toNat = k + 1 by omega, show ((k : Int) + 1 - 1).toNat = k by omega]
  rfl
theorem cmP_12 (y : Int) : cmP y 12 = 365 + lpN y := by
  unfold lpN
  simp [cmP, mdP]
  split <;> rfl
theorem cmP_mono (y : Int) {a b : Nat} (h : a ≤ b) : cmP y a ≤ cmP y b := by
  induction b with
  | zero => rw [Nat.le_zero.1 h]; exact Int.le_refl _
  | succ b ih =>
    rcases Nat.lt_or_ge a (b + 1) with h1 | h1
    · have := ih (by omega)
      have h2 := mdP_bd y (b + 1)
      simp only [cmP]
      omega
    · rw [show a = b + 1 by omega]; exact Int.le_refl _
theorem IsDate.yr {n y m d : Int} (h : IsDate n y m d) : ydP y ≤ n ∧ n < ydP (y + 1) := by
  obtain ⟨h1, h2, h3, h4, h5⟩ := h
  have e1 := cmP_succ y m h1
  have e2 := cmP_bd y (m - 1).toNat
  have e3 := cmP_mono y (a := m.toNat) (b := 12) (by omega)
  rw [cmP_12] at e3
  have e4 := ydP_succ y
  unfold dyP at h5
  omega
theorem IsDate.mo {n y m d : Int} (h : IsDate n y m d) : cmP y (m - 1).toNat ≤ n - ydP y ∧ n - ydP y < cmP y m.toNat := by
  obtain ⟨h1, h2, h3, h4, h5⟩ := h
  have e1 := cmP_succ y m h1
  unfold dyP at h5
  omega
theorem IsDate.one {n y m d y' m' d' : Int} (h : IsDate n y m d) (h' : IsDate n y' m' d') : y = y' ∧ m = m' ∧ d = d' := by
  have a := h.yr
  have b := h'.yr
  have e : y = y' := by
    rcases Int.lt_trichotomy y y' with c | c | c
    · have := ydP_le (a := y + 1) (b := y') (by omega); omega
    · exact c
    · have := ydP_le (a := y' + 1) (b := y) (by omega); omega
  subst e
  have a' := h.mo
  have b' := h'.mo
  have e : m = m' := by
    rcases Int.lt_trichotomy m m' with c | c | c
    · have := cmP_mono y (a := m.toNat) (b := (m' - 1).toNat) (by omega); omega
    · exact c
    · have := cmP_mono y (a := m'.toNat) (b := (m - 1).toNat) (by omega); omega
  subst e
  refine ⟨rfl, rfl, ?_⟩
  have g1 := h.day
  have g2 := h'.day
  unfold dyP at g1 g2
  omega
end Go.Tk
/- Numbers: what is printed reads back as the same number. Plain. -/
namespace Go.Tk
open Go Go.RowKit
/-- A number as it is read: digits, no 0 at both ends. -/
structure NF (n : Nm) : Prop where
  dg : dgB n.dg = true
  tl : tl0 n.dg = n.dg
  tr : tr0 n.dg = n.dg
  z : n.dg = [] → n = nmZ
  inf : n.inf = 0
  nan : n.nan = false
theorem dgB_app (a b : List UInt8) : dgB (a ++ b) = (dgB a && dgB b) := by unfold dgB; exact List.all_append
theorem dgB_sub {a b : List UInt8} (h : ∀ c ∈ a, c ∈ b) (hb : dgB b = true) : dgB a = true := List.all_eq_true.2 fun c hc => List.all_eq_true.1 hb c (h c hc)
theorem tl0_mem {l : List UInt8} : ∀ c ∈ tl0 l, c ∈ l := fun c hc => (List.dropWhile_sublist _).mem hc
theorem tr0_mem {l : List UInt8} : ∀ c ∈ tr0 l, c ∈ l := fun c hc => by
  unfold tr0 at hc
  rw [List.mem_reverse] at hc
  exact List.mem_reverse.1 ((List.dropWhile_sublist _).mem hc)
theorem tl0_idem (l : List UInt8) : tl0 (tl0 l) = tl0 l := by
  unfold tl0
  induction l with
  | nil => rfl
  | cons c t ih =>
    rw [List.dropWhile_cons]
    split
    · exact ih
    · rename_i h; rw [List.dropWhile_cons, if_neg h]
theorem tr0_idem (l : List UInt8) : tr0 (tr0 l) = tr0 l := by
  have := tl0_idem l.reverse
  unfold tl0 at this
  unfold tr0
  rw [List.reverse_reverse, this]
theorem tl0_cons (c : UInt8) (t : List UInt8) (h : c ≠ 48) : tl0 (c :: t) = c :: t := by
  unfold tl0; rw [List.dropWhile_cons, if_neg (by simpa using h)]
theorem tl0_head {c : UInt8} {l t : List UInt8} (h : tl0 l = c :: t) : c ≠ 48 := by
  have h2 := tl0_idem l
  rw [h] at h2
  rintro rfl
  unfold tl0 at h2
  rw [List.dropWhile_cons, if_pos (by simp)] at h2
  have := (List.dropWhile_sublist (fun c => c == (48 : UInt8)) (l := t)).length_le
  rw [h2] at this
  simp at this
  omega
/-- The head stays where the end is cut. -/
theorem tr0_cons (c : UInt8) (t : List UInt8) (h : c ≠ 48) : ∃ t', tr0 (c :: t) = c :: t' := by
  unfold tr0
  rw [List.reverse_cons, List.dropWhile_append]
  split
  · refine ⟨[], ?_⟩
    rw [List.dropWhile_cons, if_neg (by simpa using h)]
    rfl
  · refine ⟨((List.dropWhile (· == 48) t.reverse)).reverse, ?_⟩
    rw [List.reverse_append]; rfl
theorem tl0_tr0 (l : List UInt8) : tl0 (tr0 (tl0 l)) = tr0 (tl0 l) := by
  cases h : tl0 l with
  | nil => rfl
  | cons c t =>
    have hc := tl0_head h
    obtain ⟨t', ht⟩ := tr0_cons c t hc
    rw [ht, tl0_cons c t' hc]
theorem nf_Z : NF nmZ := ⟨rfl, rfl, rfl, fun _ => rfl, rfl, rfl⟩
theorem nf_mk {b : Bool} {w p : List UInt8} {e : Int} (hw : dgB w = true) (hp : dgB p = true) : NF (mkN b w p e) := by
  unfold mkN
  split
  · exact nf_Z
  · rename_i h
    refine ⟨?_, tl0_tr0 _, tr0_idem _, fun h2 => absurd h2 h, rfl, rfl⟩
    refine dgB_sub (fun c hc => tl0_mem c (tr0_mem c hc)) (b := w ++ p) ?_
    rw [dgB_app, hw, hp]; rfl
theorem rep0_succ (n : Nat) : rep0 (n + 1) = 48 :: rep0 n := rfl
theorem dgB_rep (n : Nat) : dgB (rep0 n) = true := by
  induction n with
  | zero => rfl
  | succ n ih => rw [rep0_succ]; unfold dgB at ih ⊢; rw [List.all_cons, ih]; rfl
theorem tl0_rep (n : Nat) (l : List UInt8) : tl0 (rep0 n ++ l) = tl0 l := by
  induction n with
  | zero => rfl
  | succ n ih =>
    rw [rep0_succ, List.cons_append]
    unfold tl0 at ih ⊢
    rw [List.dropWhile_cons, if_pos (by simp)]
    exact ih
theorem tr0_rep (n : Nat) (l : List UInt8) : tr0 (l ++ rep0 n) = tr0 l := by
  have h := tl0_rep n l.reverse
  have hr : (rep0 n).reverse = rep0 n := List.reverse_replicate
  unfold tl0 at h
  unfold tr0
  rw [List.reverse_append, hr, h]
theorem len_rep (n : Nat) : (rep0 n).length = n := List.length_replicate
/-- Digits with 0 at both ends. -/
theorem mk_mid {n : Nm} (h : NF n) (hd : n.dg ≠ []) {b : Bool} {w p : List UInt8} {e : Int} {i j : Nat} (ha : w ++ p = rep0 i ++ (n.dg ++ rep0 j)) :
    mkN b w p e = ⟨b, n.dg, (w.length : Int) + e - i, 0, false⟩ := by
  have ht : tl0 (w ++ p) = n.dg ++ rep0 j := by
    rw [ha, tl0_rep]
    cases hc : n.dg with
    | nil => exact absurd hc hd
    | cons c t =>
      have := h.tl
      rw [hc] at this
      rw [List.cons_append, tl0_cons _ _ (tl0_head this)]
  have hr : tr0 (n.dg ++ rep0 j) = n.dg := by rw [tr0_rep, h.tr]
  have hl : (w ++ p).length = i + (n.dg.length + j) := by rw [ha, List.length_append, List.length_append, len_rep, len_rep]
  unfold mkN
  rw [ht, hr, if_neg hd, hl, List.length_append, len_rep]
  congr 1
  omega
theorem nf_eta {n : Nm} (h : NF n) : (⟨n.below, n.dg, n.pw, 0, false⟩ : Nm) = n := by
  have h1 := h.inf
  have h2 := h.nan
  cases n
  simp only at h1 h2
  rw [h1, h2]
theorem dg_43 {c : UInt8} {t : List UInt8} (h : dgB (c :: t) = true) : c ≠ 43 ∧ c ≠ 45 ∧ c ≠ 46 ∧ isE c = false := by
  have h := List.all_eq_true.1 h c (by simp)
  simp only [Bool.and_eq_true, decide_eq_true_eq] at h
  have h1 := UInt8.le_iff_toNat_le.1 h.1
  have h2 := UInt8.le_iff_toNat_le.1 h.2
  refine ⟨?_, ?_, ?_, ?_⟩
  · rintro rfl; simp at h1
  · rintro rfl; simp at h1
  · rintro rfl; simp at h1
  · unfold isE
    rw [Bool.or_eq_false_iff]
    refine ⟨beq_false_of_ne ?_, beq_false_of_ne ?_⟩
    · rintro rfl; simp at h2
    · rintro rfl; simp at h2
/-- A sign ahead of digits. -/
theorem sg_put (b : Bool) {c : UInt8} {t : List UInt8} (h1 : c ≠ 43) (h2 : c ≠ 45) : sgnR ((if b = true then [45] else []) ++ c :: t) = c :: t ∧ sgnB ((if b = true then [45] else []) ++ c :: t) = b := by
  cases b with
  | true => exact ⟨rfl, rfl⟩
  | false =>
    have e1 : (c == 43 || c == 45) = false := by rw [beq_false_of_ne h1, beq_false_of_ne h2]; rfl
    have e2 : (c == 45) = false := beq_false_of_ne h2
    refine ⟨?_, ?_⟩
    · show (if (c == 43 || c == 45) = true then t else c :: t) = _
      rw [e1]; rfl
    · exact e2
theorem sg_dg (b : Bool) {l : List UInt8} (hl : l ≠ []) (h : dgB l = true) : sgnR ((if b = true then [45] else []) ++ l) = l ∧ sgnB ((if b = true then [45] else []) ++ l) = b := by
  cases l with
  | nil => exact absurd rfl hl
  | cons c t => exact sg_put b (dg_43 h).1 (dg_43 h).2.1
/-- An integer's own text reads back. -/
theorem int_back {n : Nm} (h : NF n) (hp : n.dg ≠ [] → (n.dg.length : Int) ≤ n.pw) : intP (whN n) = some n := by
  unfold whN
  by_cases hd : n.dg = []
  · rw [if_pos hd, h.z hd]; rfl
  · rw [if_neg hd]
    have hp' := hp hd
    have hne : n.dg ++ rep0 (n.pw - n.dg.length).toNat ≠ [] := by simp [hd]
    have hdg : dgB (n.dg ++ rep0 (n.pw - n.dg.length).toNat) = true := by rw [dgB_app, h.dg, dgB_rep]; rfl
    have hs := sg_dg n.below hne hdg
    unfold intP
    rw [hs.1, hs.2, if_pos (by rw [hdg]; simp [hd]), mk_mid h hd (i := 0) (j := (n.pw - n.dg.length).toNat) (by rw [List.append_nil]; rfl)]
    rw [List.length_append, len_rep]
    congr 1
    rw [← nf_eta h]
    dsimp only
    congr 1
    omega
theorem ct_dot {a b : List UInt8} (h : dgB a = true) : ctA (a ++ 46 :: b) = a ∧ ctB (a ++ 46 :: b) = b := by
  have hp : ∀ c ∈ a, (c != 46) = true := fun c hc => by
    have h := List.all_eq_true.1 h c hc
    simp only [Bool.and_eq_true, decide_eq_true_eq] at h
    have h1 := UInt8.le_iff_toNat_le.1 h.1
    simp only [bne_iff_ne, ne_eq]
    rintro rfl
    simp at h1
  unfold ctA ctB
  rw [List.takeWhile_append_of_pos hp, List.dropWhile_append_of_pos hp]
  exact ⟨by rw [List.takeWhile_cons, if_neg (by simp), List.append_nil], by rw [List.dropWhile_cons, if_neg (by simp)]; rfl⟩
theorem dgB_take {l : List UInt8} (n : Nat) (h : dgB l = true) : dgB (l.take n) = true := dgB_sub (fun c hc => List.mem_of_mem_take hc) h
theorem dgB_drop {l : List UInt8} (n : Nat) (h : dgB l = true) : dgB (l.drop n) = true := dgB_sub (fun c hc => List.mem_of_mem_drop hc) h
/-- A decimal's own text reads back. -/
theorem pl_ok {n : Nm} (h : NF n) : dgB (plW n) = true ∧ dgB (plF n) = true ∧ plW n ≠ [] ∧ mkN n.below (plW n) (plF n) 0 = n := by
  unfold plW plF
  by_cases hd : n.dg = []
  · rw [if_pos hd, if_pos hd, h.z hd]; exact ⟨rfl, rfl, by simp, rfl⟩
  rw [if_neg hd, if_neg hd]
  have hlen : 0 < n.dg.length := List.length_pos_iff.2 hd
  by_cases h0 : n.pw ≤ 0
  · rw [if_pos h0, if_pos h0]
    refine ⟨rfl, by rw [dgB_app, dgB_rep, h.dg]; rfl, by simp, ?_⟩
    rw [mk_mid h hd (i := (-n.pw).toNat + 1) (j := 0) (by rw [rep0_succ]; show _ :: _ = _ :: (_ ++ (_ ++ [])); rw [List.append_nil]; rfl)]
    refine Eq.trans ?_ (nf_eta h)
    congr 1
    simp only [List.length_singleton]
    omega
  rw [if_neg h0, if_neg h0]
  by_cases h1 : (n.dg.length : Int) ≤ n.pw
  · rw [if_pos h1, if_pos h1]
    refine ⟨by rw [dgB_app, dgB_rep, h.dg]; rfl, rfl, by simp [hd], ?_⟩
    rw [mk_mid h hd (i := 0) (j := (n.pw - n.dg.length).toNat + 1) (by
      show (n.dg ++ rep0 _) ++ [48] = [] ++ (n.dg ++ rep0 _)
      rw [List.nil_append, List.append_assoc]
      congr 1
      exact (List.replicate_succ' (n := (n.pw - n.dg.length).toNat) (a := (48 : UInt8))).symm)]
    refine Eq.trans ?_ (nf_eta h)
    congr 1
    rw [List.length_append, len_rep]
    omega
  · rw [if_neg h1, if_neg h1]
    refine ⟨dgB_take _ h.dg, dgB_drop _ h.dg, ?_, ?_⟩
    · intro he
      have := congrArg List.length he
      rw [List.length_take, List.length_nil] at this
      omega
    rw [mk_mid h hd (i := 0) (j := 0) (by rw [List.take_append_drop]; show _ = [] ++ (_ ++ []); simp)]
    refine Eq.trans ?_ (nf_eta h)
    congr 1
    rw [List.length_take]
    omega
theorem dec_back {n : Nm} (h : NF n) : decP (plN n) = some n := by
  obtain ⟨h1, h2, h3, h4⟩ := pl_ok h
  unfold plN
  have hs : sgnR ((if n.below = true then [45] else []) ++ plW n ++ [46] ++ plF n) = plW n ++ 46 :: plF n ∧ sgnB ((if n.below = true then [45] else []) ++ plW n ++ [46] ++ plF n) = n.below := by
    rw [List.append_assoc, List.append_assoc]
    cases hw : plW n with
    | nil => exact absurd hw h3
    | cons c t =>
      rw [hw] at h1
      exact sg_put n.below (dg_43 h1).1 (dg_43 h1).2.1
  have hct := ct_dot (b := plF n) h1
  unfold decP okP
  rw [hs.1, hs.2, hct.1, hct.2, if_pos (by rw [h1, h2]; simp [h3]), h4]
theorem nf_int {l : List UInt8} {n : Nm} (h : intP l = some n) : NF n ∧ (n.dg ≠ [] → (n.dg.length : Int) ≤ n.pw) := by
  unfold intP at h
  split at h
  · rename_i hc
    simp only [Bool.and_eq_true] at hc
    obtain rfl := Option.some.inj h
    refine ⟨nf_mk hc.2 rfl, ?_⟩
    unfold mkN
    rw [List.append_nil]
    split
    · rename_i h0; intro h2; exact absurd rfl h2
    · dsimp only
      intro _
      have := (List.dropWhile_sublist (fun c => c == (48 : UInt8)) (l := (tl0 (sgnR l)).reverse)).length_le
      unfold tr0
      rw [List.length_reverse] at this ⊢
      omega
  · cases h
theorem nf_dec {l : List UInt8} {n : Nm} (h : decP l = some n) : NF n := by
  unfold decP okP at h
  split at h
  · rename_i hc
    simp only [Bool.and_eq_true] at hc
    obtain rfl := Option.some.inj h
    exact nf_mk hc.1.1 hc.1.2
  · cases h
theorem nf_dbl {l : List UInt8} {n : Nm} (h : dblP l = some n) : n = nmNaN ∧ l = [78, 97, 78] ∨ n = nmInf 1 ∨ n = nmInf (-1) ∨ NF n := by
  unfold dblP at h
  split at h
  · exact .inl ⟨(Option.some.inj h).symm, by assumption⟩
  split at h
  · exact .inr (.inl (Option.some.inj h).symm)
  split at h
  · exact .inr (.inr (.inl (Option.some.inj h).symm))
  split at h
  · exact .inr (.inr (.inr (nf_dec h)))
  split at h
  · rename_i hc
    unfold okP at hc
    simp only [Bool.and_eq_true] at hc
    obtain rfl := Option.some.inj h
    exact .inr (.inr (.inr (nf_mk hc.1.1.1 hc.1.1.2)))
  · cases h
end Go.Tk
