/- VcA VcB, laid as one. -/
import Derived.Test.YtlhcejbimlilaaaGreatDoorVaM
set_option linter.unusedVariables false
set_option linter.unusedSimpArgs false
/- Numbers: what is printed reads back as the same number. Plain. -/
namespace Go.Tk
open Go Go.RowKit
/-- A number as it is read: digits, no 0 at both ends. -/
structure NF (n : Nm) : Prop where
  dg : dgB n.dg = true
  tl : tl0 n.dg = n.dg
  tr : tr0 n.dg = n.dg
  z : n.dg = [] → n = nmZ
  inf : n.inf = 0
  nan : n.nan = false
theorem dgB_app (a b : List UInt8) : dgB (a ++ b) = (dgB a && dgB b) := by unfold dgB; exact List.all_append
theorem dgB_sub {a b : List UInt8} (h : ∀ c ∈ a, c ∈ b) (hb : dgB b = true) : dgB a = true := List.all_eq_true.2 fun c hc => List.all_eq_true.1 hb c (h c hc)
theorem tl0_mem {l : List UInt8} : ∀ c ∈ tl0 l, c ∈ l := fun c hc => (List.dropWhile_sublist _).mem hc
theorem tr0_mem {l : List UInt8} : ∀ c ∈ tr0 l, c ∈ l := fun c hc => by
  unfold tr0 at hc
  rw [List.mem_reverse] at hc
  exact List.mem_reverse.1 ((List.dropWhile_sublist _).mem hc)
theorem tl0_idem (l : List UInt8) : tl0 (tl0 l) = tl0 l := by
  unfold tl0
  induction l with
  | nil => rfl
  | cons c t ih =>
    rw [List.dropWhile_cons]
    split
    · exact ih
    · rename_i h; rw [List.dropWhile_cons, if_neg h]
theorem tr0_idem (l : List UInt8) : tr0 (tr0 l) = tr0 l := by
  have := tl0_idem l.reverse
  unfold tl0 at this
  unfold tr0
  rw [List.reverse_reverse, this]
theorem tl0_cons (c : UInt8) (t : List UInt8) (h : c ≠ 48) : tl0 (c :: t) = c :: t := by
  unfold tl0; rw [List.dropWhile_cons, if_neg (by simpa using h)]
theorem tl0_head {c : UInt8} {l t : List UInt8} (h : tl0 l = c :: t) : c ≠ 48 := by
  have h2 := tl0_idem l
  rw [h] at h2
  rintro rfl
  unfold tl0 at h2
  rw [List.dropWhile_cons, if_pos (by simp)] at h2
  have := (List.dropWhile_sublist (fun c => c == (48 : UInt8)) (l := t)).length_le
  rw [h2] at this
  simp at this
  omega
/-- The head stays where the end is cut. -/
theorem tr0_cons (c : UInt8) (t : List UInt8) (h : c ≠ 48) : ∃ t', tr0 (c :: t) = c :: t' := by
  unfold tr0
  rw [List.reverse_cons, List.dropWhile_append]
  split
  · refine ⟨[], ?_⟩
    rw [List.dropWhile_cons, if_neg (by simpa using h)]
    rfl
  · refine ⟨((List.dropWhile (· == 48) t.reverse)).reverse, ?_⟩
    rw [List.reverse_append]; rfl
theorem tl0_tr0 (l : List UInt8) : tl0 (tr0 (tl0 l)) = tr0 (tl0 l) := by
  cases h : tl0 l with
  | nil => rfl
  | cons c t =>
    have hc := tl0_head h
    obtain ⟨t', ht⟩ := tr0_cons c t hc
    rw [ht, tl0_cons c t' hc]
theorem nf_Z : NF nmZ := ⟨rfl, rfl, rfl, fun _ => rfl, rfl, rfl⟩
theorem nf_mk {b : Bool} {w p : List UInt8} {e : Int} (hw : dgB w = true) (hp : dgB p = true) : NF (mkN b w p e) := by
  unfold mkN
  split
  · exact nf_Z
  · rename_i h
    refine ⟨?_, tl0_tr0 _, tr0_idem _, fun h2 => absurd h2 h, rfl, rfl⟩
    refine dgB_sub (fun c hc => tl0_mem c (tr0_mem c hc)) (b := w ++ p) ?_
    rw [dgB_app, hw, hp]; rfl
theorem rep0_succ (n : Nat) : rep0 (n + 1) = 48 :: rep0 n := rfl
theorem tl0_rep (n : Nat) (l : List UInt8) : tl0 (rep0 n ++ l) = tl0 l := by
  induction n with
  | zero => rfl
  | succ n ih =>
    rw [rep0_succ, List.cons_append]
    unfold tl0 at ih ⊢
    rw [List.dropWhile_cons, if_pos (by simp)]
    exact ih
theorem tr0_rep (n : Nat) (l : List UInt8) : tr0 (l ++ rep0 n) = tr0 l := by
  have h := tl0_rep n l.reverse
  have hr : (rep0 n).reverse = rep0 n := List.reverse_replicate
  unfold tl0 at h
  unfold tr0
  rw [List.reverse_append, hr, h]
theorem nf_eta {n : Nm} (h : NF n) : (⟨n.below, n.dg, n.pw, 0, false⟩ : Nm) = n := by
  have h1 := h.inf
  have h2 := h.nan
  cases n
  simp only at h1 h2
  rw [h1, h2]
theorem dg_43 {c : UInt8} {t : List UInt8} (h : dgB (c :: t) = true) : c ≠ 43 ∧ c ≠ 45 ∧ c ≠ 46 ∧ isE c = false := by
  have h := List.all_eq_true.1 h c (by simp)
  simp only [Bool.and_eq_true, decide_eq_true_eq] at h
  have h1 := UInt8.le_iff_toNat_le.1 h.1
  have h2 := UInt8.le_iff_toNat_le.1 h.2
  refine ⟨?_, ?_, ?_, ?_⟩
  · rintro rfl; simp at h1
  · rintro rfl; simp at h1
  · rintro rfl; simp at h1
  · unfold isE
    rw [Bool.or_eq_false_iff]
    refine ⟨beq_false_of_ne ?_, beq_false_of_ne ?_⟩
    · rintro rfl; simp at h2
    · rintro rfl; simp at h2
/-- A sign ahead of digits. -/
theorem sg_put (b : Bool) {c : UInt8} {t : List UInt8} (h1 : c ≠ 43) (h2 : c ≠ 45) : sgnR ((if b = true then [45] else []) ++ c :: t) = c :: t ∧ sgnB ((if b = true then [45] else []) ++ c :: t) = b := by
  cases b with
  | true => exact ⟨rfl, rfl⟩
  | false =>
    have e1 : (c == 43 || c == 45) = false := by rw [beq_false_of_ne h1, beq_false_of_ne h2]; rfl
    have e2 : (c == 45) = false := beq_false_of_ne h2
    refine ⟨?_, ?_⟩
    · show (if (c == 43 || c == 45) = true then t else c :: t) = _
      rw [e1]; rfl
    · exact e2
theorem sg_dg (b : Bool) {l : List UInt8} (hl : l ≠ []) (h : dgB l = true) : sgnR ((if b = true then [45] else []) ++ l) = l ∧ sgnB ((if b = true then [45] else []) ++ l) = b := by
  cases l with
  | nil => exact absurd rfl hl
  | cons c t => exact sg_put b (dg_43 h).1 (dg_43 h).2.1
theorem nf_int {l : List UInt8} {n : Nm} (h : intP l = some n) : NF n ∧ (n.dg ≠ [] → (n.dg.length : Int) ≤ n.pw) := by
  unfold intP at h
  split at h
  · rename_i hc
    simp only [Bool.and_eq_true] at hc
    obtain rfl := Option.some.inj h
    refine ⟨nf_mk hc.2 rfl, ?_⟩
    unfold mkN
    rw [List.append_nil]
    split
    · rename_i h0; intro h2; exact absurd rfl h2
    · dsimp only
      intro _
      have := (List.dropWhile_sublist (fun c => c == (48 : UInt8)) (l := (tl0 (sgnR l)).reverse)).length_le
      unfold tr0
      rw [List.length_reverse] at this ⊢
      omega
  · cases h
theorem nf_dec {l : List UInt8} {n : Nm} (h : decP l = some n) : NF n := by
  unfold decP okP at h
  split at h
  · rename_i hc
    simp only [Bool.and_eq_true] at hc
    obtain rfl := Option.some.inj h
    exact nf_mk hc.1.1 hc.1.2
  · cases h
theorem nf_dbl {l : List UInt8} {n : Nm} (h : dblP l = some n) : n = nmNaN ∧ l = [78, 97, 78] ∨ n = nmInf 1 ∨ n = nmInf (-1) ∨ NF n := by
  unfold dblP at h
  split at h
  · exact .inl ⟨(Option.some.inj h).symm, by assumption⟩
  split at h
  · exact .inr (.inl (Option.some.inj h).symm)
  split at h
  · exact .inr (.inr (.inl (Option.some.inj h).symm))
  split at h
  · exact .inr (.inr (.inr (nf_dec h)))
  split at h
  · rename_i hc
    unfold okP at hc
    simp only [Bool.and_eq_true] at hc
    obtain rfl := Option.some.inj h
    exact .inr (.inr (.inr (nf_mk hc.1.1.1 hc.1.1.2)))
  · cases h
end Go.Tk
/- Doubles read back; a decimal is a double; equal numbers. Plain. -/
namespace Go.Tk
open Go Go.RowKit
theorem dbl_e {l : List UInt8} (h : l.any isE = true) : dblP l = if (okP (ctA (sgnR (hdE l))) (ctB (sgnR (hdE l))) && okE (tlE l)) = true then some (mkN (sgnB (hdE l)) (ctA (sgnR (hdE l))) (ctB (sgnR (hdE l))) (expZ (tlE l))) else none := by
  unfold dblP
  rw [if_neg, if_neg, if_neg, if_neg]
  · rw [h]; simp
  · rintro rfl; revert h; decide
  · rintro (rfl | rfl) <;> (revert h; decide)
  · rintro rfl; revert h; decide
theorem noE_dg8 {l : List UInt8} (h : dgB l = true) : l.any isE = false := by
  rw [List.any_eq_false]
  intro c hc
  have := (dg_43 (c := c) (t := []) (dgB_sub (fun d hd => by simp at hd; rw [hd]; exact hc) h)).2.2.2
  rw [this]; simp
/-- A decimal's text is a double's: the same number. -/
theorem dec_noE {l : List UInt8} {n : Nm} (h : decP l = some n) : l.any isE = false := by
  unfold decP okP at h
  split at h
  · rename_i hc
    simp only [Bool.and_eq_true] at hc
    have hr : (sgnR l).any isE = false := by
      have e := List.takeWhile_append_dropWhile (p := fun c : UInt8 => c != 46) (l := sgnR l)
      rw [← e, List.any_append, Bool.or_eq_false_iff]
      refine ⟨noE_dg8 hc.1.1, ?_⟩
      have hb := hc.1.2
      unfold ctB at hb
      cases hd : (sgnR l).dropWhile (fun c : UInt8 => c != 46) with
      | nil => rfl
      | cons c t =>
        rw [hd] at hb
        have hc46 : (c != 46) = false := by
          have := List.head?_dropWhile_not (fun c : UInt8 => c != 46) (sgnR l)
          rw [hd] at this
          simpa using this
        have : c = 46 := by simpa using hc46
        subst this
        rw [List.any_cons, noE_dg8 (show dgB t = true from hb)]
        rfl
    cases l with
    | nil => rfl
    | cons c t =>
      replace hr : (if c == 43 || c == 45 then t else c :: t).any isE = false := hr
      split at hr
      · rename_i hcc
        rw [List.any_cons, hr, Bool.or_false]
        simp only [Bool.or_eq_true, beq_iff_eq] at hcc
        rcases hcc with rfl | rfl <;> rfl
      · exact hr
  · cases h
theorem dec_dbl {l : List UInt8} {n : Nm} (h : decP l = some n) : dblP l = some n := by
  unfold dblP
  rw [if_neg, if_neg, if_neg, if_pos (dec_noE h), h]
  · rintro rfl; cases h
  · rintro (rfl | rfl) <;> cases h
  · rintro rfl; cases h
theorem cmB_zero : ∀ (l m : List UInt8), cmB l m = 0 ↔ l = m
  | [], [] => by simp [cmB]
  | [], _ :: _ => by simp [cmB]
  | _ :: _, [] => by simp [cmB]
  | x :: l, y :: m => by
    simp only [cmB]
    by_cases h1 : x < y
    · rw [if_pos h1]
      refine ⟨fun h => by simp at h, fun h => ?_⟩
      obtain ⟨rfl, _⟩ := List.cons.inj h
      exact absurd h1 (by rw [UInt8.lt_iff_toNat_lt]; omega)
    · rw [if_neg h1]
      by_cases h2 : y < x
      · rw [if_pos h2]
        refine ⟨fun h => by simp at h, fun h => ?_⟩
        obtain ⟨rfl, _⟩ := List.cons.inj h
        exact absurd h2 (by rw [UInt8.lt_iff_toNat_lt]; omega)
      · rw [if_neg h2, cmB_zero l m]
        have : x = y := by
          apply UInt8.toNat.inj
          rw [UInt8.lt_iff_toNat_lt] at h1 h2
          omega
        rw [this]
        simp
theorem cmZ_zero (a b : Int) : cmZ a b = 0 ↔ a = b := by
  unfold cmZ
  split
  · omega
  split <;> omega
theorem ag_self {n : Nm} (h : n.nan = false) : agN n n = (0, true) := by
  unfold agN
  rw [h, if_neg (by simp), (cmZ_zero _ _).2 rfl, (cmZ_zero n.pw n.pw).2 rfl, if_pos rfl, (cmB_zero _ _).2 rfl]
  split
  · rfl
  · simp
theorem rk_nf {n : Nm} (h : NF n) : rkN n = if n.dg = [] then 0 else if n.below = true then -1 else 1 := by
  unfold rkN; rw [h.inf]; simp
end Go.Tk
