/- VcA VcB, laid as one. -/
import Derived.Test.YtlhcejbimlilaaaGreatDoorVaM
set_option linter.unusedVariables false
set_option linter.unusedSimpArgs false
/- Numbers: what is printed reads back as the same number. Plain. -/
namespace Go.Tk
open Go Go.RowKit
/-- A number as it is read: digits, no 0 at both ends. -/
structure NF (n : Nm) : Prop where
  dg : dgB n.dg = true
  tl : tl0 n.dg = n.dg
  tr : tr0 n.dg = n.dg
  z : n.dg = [] → n = nmZ
  inf : n.inf = 0
  nan : n.nan = false
theorem dgB_app (a b : List UInt8) : dgB (a ++ b) = (dgB a && dgB b) := by unfold dgB; exact List.all_append
theorem dgB_sub {a b : List UInt8} (h : ∀ c ∈ a, c ∈ b) (hb : dgB b = true) : dgB a = true := List.all_eq_true.2 fun c hc => List.all_eq_true.1 hb c (h c hc)
theorem tl0_mem {l : List UInt8} : ∀ c ∈ tl0 l, c ∈ l := fun c hc => (List.dropWhile_sublist _).mem hc
theorem tr0_mem {l : List UInt8} : ∀ c ∈ tr0 l, c ∈ l := fun c hc => by
  unfold tr0 at hc
  rw [List.mem_reverse] at hc
  exact List.mem_reverse.1 ((List.dropWhile_sublist _).mem hc)
theorem tl0_idem (l : List UInt8) : tl0 (tl0 l) = tl0 l := by
  unfold tl0
  induction l with
  | nil => rfl
  | cons c t ih =>
    rw [List.dropWhile_cons]
    split
    · exact ih
    · rename_i h; rw [List.dropWhile_cons, if_neg h]
theorem tr0_idem (l : List UInt8) : tr0 (tr0 l) = tr0 l := by
  have := tl0_idem l.reverse
  unfold tl0 at this
  unfold tr0
  rw [List.reverse_reverse, this]
theorem tl0_cons (c : UInt8) (t : List UInt8) (h : c ≠ 48) : tl0 (c :: t) = c :: t := by
  unfold tl0; rw [List.dropWhile_cons, if_neg (by simpa using h)]
theorem tl0_head {c : UInt8} {l t : List UInt8} (h : tl0 l = c :: t) : c ≠ 48 := by
  have h2 := tl0_idem l
  rw [h] at h2
  rintro rfl
  unfold tl0 at h2
  rw [List.dropWhile_cons, if_pos (by simp)] at h2
  have := (List.dropWhile_sublist (fun c => c == (48 : UInt8)) (l := t)).length_le
  rw [h2] at this
  simp at this
  omega
/-- The head stays where the end is cut. -/
theorem tr0_cons (c : UInt8) (t : List UInt8) (h : c ≠ 48) : ∃ t', tr0 (c :: t) = c :: t' := by
  unfold tr0
  rw [List.reverse_cons, List.dropWhile_append]
  split
  · refine ⟨[], ?_⟩
    rw [List.dropWhile_cons, if_neg (by simpa using h)]
    rfl
  · refine ⟨((List.dropWhile (· == 48) t.reverse)).reverse, ?_⟩
    rw [List.reverse_append]; rfl
theorem tl0_tr0 (l : List UInt8) : tl0 (tr0 (tl0 l)) = tr0 (tl0 l) := by
  cases h : tl0 l with
  | nil => rfl
  | cons c t =>
    have hc := tl0_head h
    obtain ⟨t', ht⟩ := tr0_cons c t hc
    rw [ht, tl0_cons c t' hc]
theorem nf_Z : NF nmZ := ⟨rfl, rfl, rfl, fun _ => rfl, rfl, rfl⟩
theorem nf_mk {b : Bool} {w p : List UInt8} {e : Int} (hw : dgB w = true) (hp : dgB p = true) : NF (mkN b w p e) := by
  unfold mkN
  split
  · exact nf_Z
  · rename_i h
    refine ⟨?_, tl0_tr0 _, tr0_idem _, fun h2 => absurd h2 h, rfl, rfl⟩
    refine dgB_sub (fun c hc => tl0_mem c (tr0_mem c hc)) (b := w ++ p) ?_
    rw [dgB_app, hw, hp]; rfl
theorem rep0_succ (n : Nat) : rep0 (n + 1) = 48 :: rep0 n := rfl
theorem dgB_rep (n : Nat) : dgB (rep0 n) = true := by
  induction n with
  | zero => rfl
  | succ n ih => rw [rep0_succ]; unfold dgB at ih ⊢; rw [List.all_cons, ih]; rfl
theorem tl0_rep (n : Nat) (l : List UInt8) : tl0 (rep0 n ++ l) = tl0 l := by
  induction n with
  | zero => rfl
  | succ n ih =>
    rw [rep0_succ, List.cons_append]
    unfold tl0 at ih ⊢
    rw [List.dropWhile_cons, if_pos (by simp)]
    exact ih
theorem tr0_rep (n : Nat) (l : List UInt8) : tr0 (l ++ rep0 n) = tr0 l := by
  have h := tl0_rep n l.reverse
  have hr : (rep0 n).reverse = rep0 n := List.reverse_replicate
  unfold tl0 at h
  unfold tr0
  rw [List.reverse_append, hr, h]
theorem len_rep (n : Nat) : (rep0 n).length = n := List.length_replicate
/-- Digits with 0 at both ends. -/
theorem mk_mid {n : Nm} (h : NF n) (hd : n.dg ≠ []) {b : Bool} {w p : List UInt8} {e : Int} {i j : Nat} (ha : w ++ p = rep0 i ++ (n.dg ++ rep0 j)) :
    mkN b w p e = ⟨b, n.dg, (w.length : Int) + e - i, 0, false⟩ := by
  have ht : tl0 (w ++ p) = n.dg ++ rep0 j := by
    rw [ha, tl0_rep]
    cases hc : n.dg with
    | nil => exact absurd hc hd
    | cons c t =>
      have := h.tl
      rw [hc] at this
      rw [List.cons_append, tl0_cons _ _ (tl0_head this)]
  have hr : tr0 (n.dg ++ rep0 j) = n.dg := by rw [tr0_rep, h.tr]
  have hl : (w ++ p).length = i + (n.dg.length + j) := by rw [ha, List.length_append, List.length_append, len_rep, len_rep]
  unfold mkN
  rw [ht, hr, if_neg hd, hl, List.length_append, len_rep]
  congr 1
  omega
theorem nf_eta {n : Nm} (h : NF n) : (⟨n.below, n.dg, n.pw, 0, false⟩ : Nm) = n := by
  have h1 := h.inf
  have h2 := h.nan
  cases n
  simp only at h1 h2
  rw [h1, h2]
theorem dg_43 {c : UInt8} {t : List UInt8} (h : dgB (c :: t) = true) : c ≠ 43 ∧ c ≠ 45 ∧ c ≠ 46 ∧ isE c = false := by
  have h := List.all_eq_true.1 h c (by simp)
  simp only [Bool.and_eq_true, decide_eq_true_eq] at h
  have h1 := UInt8.le_iff_toNat_le.1 h.1
  have h2 := UInt8.le_iff_toNat_le.1 h.2
  refine ⟨?_, ?_, ?_, ?_⟩
  · rintro rfl; simp at h1
  · rintro rfl; simp at h1
  · rintro rfl; simp at h1
  · unfold isE
    rw [Bool.or_eq_false_iff]
    refine ⟨beq_false_of_ne ?_, beq_false_of_ne ?_⟩
    · rintro rfl; simp at h2
    · rintro rfl; simp at h2
/-- A sign ahead of digits. -/
theorem sg_put (b : Bool) {c : UInt8} {t : List UInt8} (h1 : c ≠ 43) (h2 : c ≠ 45) : sgnR ((if b = true then [45] else []) ++ c :: t) = c :: t ∧ sgnB ((if b = true then [45] else []) ++ c :: t) = b := by
  cases b with
  | true => exact ⟨rfl, rfl⟩
  | false =>
    have e1 : (c == 43 || c == 45) = false := by rw [beq_false_of_ne h1, beq_false_of_ne h2]; rfl
    have e2 : (c == 45) = false := beq_false_of_ne h2
    refine ⟨?_, ?_⟩
    · show (if (c == 43 || c == 45) = true then t else c :: t) = _
      rw [e1]; rfl
    · exact e2
theorem sg_dg (b : Bool) {l : List UInt8} (hl : l ≠ []) (h : dgB l = true) : sgnR ((if b = true then [45] else []) ++ l) = l ∧ sgnB ((if b = true then [45] else []) ++ l) = b := by
  cases l with
  | nil => exact absurd rfl hl
  | cons c t => exact sg_put b (dg_43 h).1 (dg_43 h).2.1
/-- An integer's own text reads back. -/
theorem int_back {n : Nm} (h : NF n) (hp : n.dg ≠ [] → (n.dg.length : Int) ≤ n.pw) : intP (whN n) = some n := by
  unfold whN
  by_cases hd : n.dg = []
  · rw [if_pos hd, h.z hd]; rfl
  · rw [if_neg hd]
    have hp' := hp hd
    have hne : n.dg ++ rep0 (n.pw - n.dg.length).toNat ≠ [] := by simp [hd]
    have hdg : dgB (n.dg ++ rep0 (n.pw - n.dg.length).toNat) = true := by rw [dgB_app, h.dg, dgB_rep]; rfl
    have hs := sg_dg n.below hne hdg
    unfold intP
    rw [hs.1, hs.2, if_pos (by rw [hdg]; simp [hd]), mk_mid h hd (i := 0) (j := (n.pw - n.dg.length).toNat) (by rw [List.append_nil]; rfl)]
    rw [List.length_append, len_rep]
    congr 1
    rw [← nf_eta h]
    dsimp only
    congr 1
    omega
theorem ct_dot {a b : List UInt8} (h : dgB a = true) : ctA (a ++ 46 :: b) = a ∧ ctB (a ++ 46 :: b) = b := by
  have hp : ∀ c ∈ a, (c != 46) = true := fun c hc => by
    have h := List.all_eq_true.1 h c hc
    simp only [Bool.and_eq_true, decide_eq_true_eq] at h
    have h1 := UInt8.le_iff_toNat_le.1 h.1
    simp only [bne_iff_ne, ne_eq]
    rintro rfl
    simp at h1
  unfold ctA ctB
  rw [List.takeWhile_append_of_pos hp, List.dropWhile_append_of_pos hp]
  exact ⟨by rw [List.takeWhile_cons, if_neg (by simp), List.append_nil], by rw [List.dropWhile_cons, if_neg (by simp)]; rfl⟩
theorem dgB_take {l : List UInt8} (n : Nat) (h : dgB l = true) : dgB (l.take n) = true := dgB_sub (fun c hc => List.mem_of_mem_take hc) h
theorem dgB_drop {l : List UInt8} (n : Nat) (h : dgB l = true) : dgB (l.drop n) = true := dgB_sub (fun c hc => List.mem_of_mem_drop hc) h
/-- A decimal's own text reads back. -/
theorem pl_ok {n : Nm} (h : NF n) : dgB (plW n) = true ∧ dgB (plF n) = true ∧ plW n ≠ [] ∧ mkN n.below (plW n) (plF n) 0 = n := by
  unfold plW plF
  by_cases hd : n.dg = []
  · rw [if_pos hd, if_pos hd, h.z hd]; exact ⟨rfl, rfl, by simp, rfl⟩
  rw [if_neg hd, if_neg hd]
  have hlen : 0 < n.dg.length := List.length_pos_iff.2 hd
  by_cases h0 : n.pw ≤ 0
  · rw [if_pos h0, if_pos h0]
    refine ⟨rfl, by rw [dgB_app, dgB_rep, h.dg]; rfl, by simp, ?_⟩
    rw [mk_mid h hd (i := (-n.pw).toNat + 1) (j := 0) (by rw [rep0_succ]; show _ :: _ = _ :: (_ ++ (_ ++ [])); rw [List.append_nil]; rfl)]
    refine Eq.trans ?_ (nf_eta h)
    congr 1
    simp only [List.length_singleton]
    omega
  rw [if_neg h0, if_neg h0]
  by_cases h1 : (n.dg.length : Int) ≤ n.pw
  · rw [if_pos h1, if_pos h1]
    refine ⟨by rw [dgB_app, dgB_rep, h.dg]; rfl, rfl, by simp [hd], ?_⟩
    rw [mk_mid h hd (i := 0) (j := (n.pw - n.dg.length).toNat + 1) (by
      show (n.dg ++ rep0 _) ++ [48] = [] ++ (n.dg ++ rep0 _)
      rw [List.nil_append, List.append_assoc]
      congr 1
      exact (List.replicate_succ' (n := (n.pw - n.dg.length).toNat) (a := (48 : UInt8))).symm)]
    refine Eq.trans ?_ (nf_eta h)
    congr 1
    rw [List.length_append, len_rep]
    omega
  · rw [if_neg h1, if_neg h1]
    refine ⟨dgB_take _ h.dg, dgB_drop _ h.dg, ?_, ?_⟩
    · intro he
      have := congrArg List.length he
      rw [List.length_take, List.length_nil] at this
      omega
    rw [mk_mid h hd (i := 0) (j := 0) (by rw [List.take_append_drop]; show _ = [] ++ (_ ++ []); simp)]
    refine Eq.trans ?_ (nf_eta h)
    congr 1
    rw [List.length_take]
    omega
theorem dec_back {n : Nm} (h : NF n) : decP (plN n) = some n := by
  obtain ⟨h1, h2, h3, h4⟩ := pl_ok h
  unfold plN
  have hs : sgnR ((if n.below = true then [45] else []) ++ plW n ++ [46] ++ plF n) = plW n ++ 46 :: plF n ∧ sgnB ((if n.below = true then [45] else []) ++ plW n ++ [46] ++ plF n) = n.below := by
    rw [List.append_assoc, List.append_assoc]
    cases hw : plW n with
    | nil => exact absurd hw h3
    | cons c t =>
      rw [hw] at h1
      exact sg_put n.below (dg_43 h1).1 (dg_43 h1).2.1
  have hct := ct_dot (b := plF n) h1
  unfold decP okP
  rw [hs.1, hs.2, hct.1, hct.2, if_pos (by rw [h1, h2]; simp [h3]), h4]
theorem nf_int {l : List UInt8} {n : Nm} (h : intP l = some n) : NF n ∧ (n.dg ≠ [] → (n.dg.length : Int) ≤ n.pw) := by
  unfold intP at h
  split at h
  · rename_i hc
    simp only [Bool.and_eq_true] at hc
    obtain rfl := Option.some.inj h
    refine ⟨nf_mk hc.2 rfl, ?_⟩
    unfold mkN
    rw [List.append_nil]
    split
    · rename_i h0; intro h2; exact absurd rfl h2
    · dsimp only
      intro _
      have := (List.dropWhile_sublist (fun c => c == (48 : UInt8)) (l := (tl0 (sgnR l)).reverse)).length_le
      unfold tr0
      rw [List.length_reverse] at this ⊢
      omega
  · cases h
theorem nf_dec {l : List UInt8} {n : Nm} (h : decP l = some n) : NF n := by
  unfold decP okP at h
  split at h
  · rename_i hc
    simp only [Bool.and_eq_true] at hc
    obtain rfl := Option.some.inj h
    exact nf_mk hc.1.1 hc.1.2
  · cases h
theorem nf_dbl {l : List UInt8} {n : Nm} (h : dblP l = some n) : n = nmNaN ∧ l = [78, 97, 78] ∨ n = nmInf 1 ∨ n = nmInf (-1) ∨ NF n := by
  unfold dblP at h
  split at h
  · exact .inl ⟨(Option.some.inj h).symm, by assumption⟩
  split at h
  · exact .inr (.inl (Option.some.inj h).symm)
  split at h
  · exact .inr (.inr (.inl (Option.some.inj h).symm))
  split at h
  · exact .inr (.inr (.inr (nf_dec h)))
  split at h
  · rename_i hc
    unfold okP at hc
    simp only [Bool.and_eq_true] at hc
    obtain rfl := Option.some.inj h
    exact .inr (.inr (.inr (nf_mk hc.1.1.1 hc.1.1.2)))
  · cases h
end Go.Tk
/- Doubles read back; a decimal is a double; equal numbers. Plain. -/
namespace Go.Tk
open Go Go.RowKit
theorem numN_app (a : List UInt8) (c : UInt8) : numN (a ++ [c]) = 10 * numN a + (c.toNat - 48) := by unfold numN; rw [List.foldl_append]; rfl
theorem dig_nat {d : Nat} (h : d < 10) : (UInt8.ofNat (48 + d)).toNat = 48 + d := UInt8.toNat_ofNat_of_lt' (by show 48 + d < 256; omega)
theorem dig_dg {d : Nat} (h : d < 10) : dgB [UInt8.ofNat (48 + d)] = true := by
  unfold dgB
  simp only [List.all_cons, List.all_nil, Bool.and_true, Bool.and_eq_true, decide_eq_true_eq]
  refine ⟨UInt8.le_iff_toNat_le.2 ?_, UInt8.le_iff_toNat_le.2 ?_⟩
  · rw [dig_nat h]; show 48 ≤ 48 + d; omega
  · rw [dig_nat h]; show 48 + d ≤ 57; omega
theorem num_dec (u : Nat) : numN (Lib.decDigits u) = u ∧ dgB (Lib.decDigits u) = true ∧ Lib.decDigits u ≠ [] := by
  induction u using Nat.strongRecOn with
  | _ u ih =>
    rw [Lib.decDigits]
    by_cases h : u < 10
    · rw [dif_pos h]
      refine ⟨?_, dig_dg h, by simp⟩
      show 10 * 0 + ((UInt8.ofNat (48 + u)).toNat - 48) = u
      rw [dig_nat h]; omega
    · rw [dif_neg h]
      obtain ⟨h1, h2, h3⟩ := ih (u / 10) (by omega)
      refine ⟨?_, ?_, by simp⟩
      · rw [numN_app, h1, dig_nat (by omega)]; omega
      · rw [dgB_app, h2, dig_dg (by omega)]; rfl
theorem dec_len : ∀ (k u : Nat), u < 10 ^ (k + 1) → (Lib.decDigits u).length ≤ k + 1
  | 0, u, h => by rw [Lib.decDigits, dif_pos (by simpa using h)]; simp
  | k + 1, u, h => by
    rw [Lib.decDigits]
    split
    · simp
    · rw [List.length_append]
      have := dec_len k (u / 10) (by rw [Nat.pow_succ] at h; omega)
      simp only [List.length_singleton]
      omega
theorem itoa_sg (z : Int) : Lib.itoa z = (if decide (z < 0) = true then [45] else []) ++ Lib.decDigits z.natAbs := by
  unfold Lib.itoa
  by_cases h : z < 0
  · rw [if_pos h, decide_eq_true h]; rfl
  · rw [if_neg h, decide_eq_false h]
    rw [show z.toNat = z.natAbs from by omega]
    rfl
/-- An exponent as it is printed reads back. -/
theorem exp_back {z : Int} (h1 : -999999999 ≤ z) (h2 : z ≤ 999999999) : okE (Lib.itoa z) = true ∧ expZ (Lib.itoa z) = z := by
  obtain ⟨d1, d2, d3⟩ := num_dec z.natAbs
  have hs := sg_dg (decide (z < 0)) d3 d2
  rw [← itoa_sg] at hs
  have hl := dec_len 8 z.natAbs (by show z.natAbs < 1000000000; omega)
  unfold okE expZ
  rw [hs.1, hs.2, d1, d2]
  refine ⟨by simp [d3]; exact hl, ?_⟩
  by_cases h : z < 0
  · rw [decide_eq_true h, if_pos rfl]; omega
  · rw [decide_eq_false h, if_neg (by simp)]; omega
theorem hd_tl {a b : List UInt8} {e : UInt8} (ha : a.any isE = false) (he : isE e = true) : hdE (a ++ e :: b) = a ∧ tlE (a ++ e :: b) = b ∧ (a ++ e :: b).any isE = true := by
  have hp : ∀ c ∈ a, (!isE c) = true := fun c hc => by
    rw [List.any_eq_false] at ha
    have := ha c hc
    simpa using this
  unfold hdE tlE
  rw [List.takeWhile_append_of_pos hp, List.dropWhile_append_of_pos hp, List.takeWhile_cons, List.dropWhile_cons, he]
  refine ⟨by simp, by simp, ?_⟩
  rw [List.any_append, List.any_cons, he]; simp
theorem dbl_e {l : List UInt8} (h : l.any isE = true) : dblP l = if (okP (ctA (sgnR (hdE l))) (ctB (sgnR (hdE l))) && okE (tlE l)) = true then some (mkN (sgnB (hdE l)) (ctA (sgnR (hdE l))) (ctB (sgnR (hdE l))) (expZ (tlE l))) else none := by
  unfold dblP
  rw [if_neg, if_neg, if_neg, if_neg]
  · rw [h]; simp
  · rintro rfl; revert h; decide
  · rintro (rfl | rfl) <;> (revert h; decide)
  · rintro rfl; revert h; decide
theorem noE_dg8 {l : List UInt8} (h : dgB l = true) : l.any isE = false := by
  rw [List.any_eq_false]
  intro c hc
  have := (dg_43 (c := c) (t := []) (dgB_sub (fun d hd => by simp at hd; rw [hd]; exact hc) h)).2.2.2
  rw [this]; simp
theorem sc_some {n : Nm} (h : NF n) (hd : n.dg ≠ []) (h1 : -999999999 ≤ n.pw - 1) (h2 : n.pw - 1 ≤ 999999999) :
    scN n = some ((if n.below = true then [45] else []) ++ (n.dg.take 1 ++ [46] ++ (if n.dg.drop 1 = [] then [48] else n.dg.drop 1) ++ [69] ++ Lib.itoa (n.pw - 1))) := by
  unfold scN
  rw [h.nan, h.inf, if_neg (by simp), if_neg (by omega), if_neg (by omega), if_neg hd, if_neg (by omega)]
/-- A double's own text reads back. -/
theorem dbl_back {l : List UInt8} {n : Nm} {a : List UInt8} (hl : dblP l = some n) (ha : scN n = some a) : dblP a = some n := by
  rcases nf_dbl hl with ⟨rfl, _⟩ | rfl | rfl | h
  · obtain rfl := Option.some.inj ha; rfl
  · obtain rfl := Option.some.inj ha; rfl
  · obtain rfl := Option.some.inj ha; rfl
  by_cases hd : n.dg = []
  · obtain rfl := h.z hd
    obtain rfl := Option.some.inj ha
    rfl
  have hb : -999999999 ≤ n.pw - 1 ∧ n.pw - 1 ≤ 999999999 := by
    unfold scN at ha
    rw [h.nan, h.inf, if_neg (by simp), if_neg (by omega), if_neg (by omega), if_neg hd] at ha
    split at ha
    · cases ha
    · omega
  rw [sc_some h hd hb.1 hb.2] at ha
  obtain rfl := Option.some.inj ha
  have hE := exp_back hb.1 hb.2
  cases hc : n.dg with
  | nil => exact absurd hc hd
  | cons c t =>
  have hdg := h.dg
  rw [hc] at hdg
  have hct := dg_43 hdg
  have htl : dgB t = true := dgB_sub (fun x hx => by simp [hx]) hdg
  obtain ⟨p, hp⟩ : ∃ p, p = if t = [] then [48] else t := ⟨_, rfl⟩
  have hpd : dgB p = true := by rw [hp]; split <;> first | rfl | exact htl
  have hpj : ∃ j, c :: p = rep0 0 ++ (n.dg ++ rep0 j) := by
    rw [hp, hc]
    by_cases h0 : t = []
    · rw [if_pos h0, h0]; exact ⟨1, rfl⟩
    · rw [if_neg h0]; exact ⟨0, by show _ = [] ++ (_ ++ []); simp⟩
  obtain ⟨j, hj⟩ := hpj
  have e : ((if n.below = true then [45] else []) ++ ((c :: t).take 1 ++ [46] ++ (if (c :: t).drop 1 = [] then [48] else (c :: t).drop 1) ++ [69] ++ Lib.itoa (n.pw - 1)) : List UInt8) = ((if n.below = true then [45] else []) ++ c :: 46 :: p) ++ 69 :: Lib.itoa (n.pw - 1) := by
    rw [hp]
    simp
  rw [e]
  have hany : ((if n.below = true then [45] else []) ++ c :: 46 :: p : List UInt8).any isE = false := by
    rw [List.any_append, List.any_cons, List.any_cons, hct.2.2.2, noE_dg8 hpd]
    cases n.below <;> rfl
  obtain ⟨q1, q2, q3⟩ := hd_tl (b := Lib.itoa (n.pw - 1)) (e := 69) hany rfl
  have hs := sg_put n.below (c := c) (t := 46 :: p) hct.1 hct.2.1
  have hk := ct_dot (a := [c]) (b := p) (dgB_sub (fun x hx => by simp at hx; simp [hx]) hdg)
  have hk1 : ctA (c :: 46 :: p) = [c] := hk.1
  have hk2 : ctB (c :: 46 :: p) = p := hk.2
  rw [dbl_e q3, q1, q2, hs.1, hs.2, hk1, hk2, hE.1, hE.2]
  rw [if_pos (by
    unfold okP
    rw [hpd, dgB_sub (a := [c]) (fun x hx => by simp at hx; simp [hx]) hdg]; rfl)]
  rw [mk_mid h hd (i := 0) (j := j) (by exact hj)]
  congr 1
  refine Eq.trans ?_ (nf_eta h)
  congr 1
  simp only [List.length_singleton]
  omega
/-- A decimal's text is a double's: the same number. -/
theorem dec_noE {l : List UInt8} {n : Nm} (h : decP l = some n) : l.any isE = false := by
  unfold decP okP at h
  split at h
  · rename_i hc
    simp only [Bool.and_eq_true] at hc
    have hr : (sgnR l).any isE = false := by
      have e := List.takeWhile_append_dropWhile (p := fun c : UInt8 => c != 46) (l := sgnR l)
      rw [← e, List.any_append, Bool.or_eq_false_iff]
      refine ⟨noE_dg8 hc.1.1, ?_⟩
      have hb := hc.1.2
      unfold ctB at hb
      cases hd : (sgnR l).dropWhile (fun c : UInt8 => c != 46) with
      | nil => rfl
      | cons c t =>
        rw [hd] at hb
        have hc46 : (c != 46) = false := by
          have := List.head?_dropWhile_not (fun c : UInt8 => c != 46) (sgnR l)
          rw [hd] at this
          simpa using this
        have : c = 46 := by simpa using hc46
        subst this
        rw [List.any_cons, noE_dg8 (show dgB t = true from hb)]
        rfl
    cases l with
    | nil => rfl
    | cons c t =>
      replace hr : (if c == 43 || c == 45 then t else c :: t).any isE = false := hr
      split at hr
      · rename_i hcc
        rw [List.any_cons, hr, Bool.or_false]
        simp only [Bool.or_eq_true, beq_iff_eq] at hcc
        rcases hcc with rfl | rfl <;> rfl
      · exact hr
  · cases h
theorem dec_dbl {l : List UInt8} {n : Nm} (h : decP l = some n) : dblP l = some n := by
  unfold dblP
  rw [if_neg, if_neg, if_neg, if_pos (dec_noE h), h]
  · rintro rfl; cases h
  · rintro (rfl | rfl) <;> cases h
  · rintro rfl; cases h
theorem cmB_zero : ∀ (l m : List UInt8), cmB l m = 0 ↔ l = m
  | [], [] => by simp [cmB]
  | [], _ :: _ => by simp [cmB]
  | _ :: _, [] => by simp [cmB]
  | x :: l, y :: m => by
    simp only [cmB]
    by_cases h1 : x < y
    · rw [if_pos h1]
      refine ⟨fun h => by simp at h, fun h => ?_⟩
      obtain ⟨rfl, _⟩ := List.cons.inj h
      exact absurd h1 (by rw [UInt8.lt_iff_toNat_lt]; omega)
    · rw [if_neg h1]
      by_cases h2 : y < x
      · rw [if_pos h2]
        refine ⟨fun h => by simp at h, fun h => ?_⟩
        obtain ⟨rfl, _⟩ := List.cons.inj h
        exact absurd h2 (by rw [UInt8.lt_iff_toNat_lt]; omega)
      · rw [if_neg h2, cmB_zero l m]
        have : x = y := by
          apply UInt8.toNat.inj
          rw [UInt8.lt_iff_toNat_lt] at h1 h2
          omega
        rw [this]
        simp
theorem cmZ_zero (a b : Int) : cmZ a b = 0 ↔ a = b := by
  unfold cmZ
  split
  · omega
  split <;> omega
theorem ag_self {n : Nm} (h : n.nan = false) : agN n n = (0, true) := by
  unfold agN
  rw [h, if_neg (by simp), (cmZ_zero _ _).2 rfl, (cmZ_zero n.pw n.pw).2 rfl, if_pos rfl, (cmB_zero _ _).2 rfl]
  split
  · rfl
  · simp
theorem rk_nf {n : Nm} (h : NF n) : rkN n = if n.dg = [] then 0 else if n.below = true then -1 else 1 := by
  unfold rkN; rw [h.inf]; simp
/-- Numbers that are held the same are the same. -/
theorem ag_zero {n m : Nm} {l k : List UInt8} (hn : dblP l = some n) (hm : dblP k = some m) (h : agN n m = (0, true)) : n = m := by
  unfold agN at h
  split at h
  · cases h
  rename_i hnan
  have n1 : n ≠ nmNaN := fun e => hnan (.inl (by rw [e]; rfl))
  have m1 : m ≠ nmNaN := fun e => hnan (.inr (by rw [e]; rfl))
  split at h
  · rename_i hr
    have hz := (cmZ_zero _ _).1 (Prod.mk.inj h).1
    rcases nf_dbl hn with ⟨e, _⟩ | rfl | rfl | a
    · exact absurd e n1
    · rcases nf_dbl hm with ⟨e, _⟩ | rfl | rfl | b
      · exact absurd e m1
      · rfl
      · exact absurd hz (by decide)
      · rw [rk_nf b] at hz; rw [show rkN (nmInf 1) = 2 from rfl] at hz; split at hz <;> (try split at hz) <;> omega
    · rcases nf_dbl hm with ⟨e, _⟩ | rfl | rfl | b
      · exact absurd e m1
      · exact absurd hz (by decide)
      · rfl
      · rw [rk_nf b] at hz; rw [show rkN (nmInf (-1)) = -2 from rfl] at hz; split at hz <;> (try split at hz) <;> omega
    · rcases nf_dbl hm with ⟨e, _⟩ | rfl | rfl | b
      · exact absurd e m1
      · rw [rk_nf a] at hz; rw [show rkN (nmInf 1) = 2 from rfl] at hz; split at hz <;> (try split at hz) <;> omega
      · rw [rk_nf a] at hz; rw [show rkN (nmInf (-1)) = -2 from rfl] at hz; split at hz <;> (try split at hz) <;> omega
      · have hr2 : rkN n ≠ 1 ∧ rkN n ≠ -1 := by omega
        have d1 : n.dg = [] := by
          by_cases hd : n.dg = []
          · exact hd
          · rw [rk_nf a, if_neg hd] at hr2; split at hr2 <;> omega
        have hr3 : rkN m ≠ 1 ∧ rkN m ≠ -1 := by omega
        have d2 : m.dg = [] := by
          by_cases hd : m.dg = []
          · exact hd
          · rw [rk_nf b, if_neg hd] at hr3; split at hr3 <;> omega
        rw [a.z d1, b.z d2]
  · rename_i hr
    have h0 := (Prod.mk.inj h).1
    have hr1 : rkN n = rkN m := by omega
    have hr2 : rkN n = 1 ∨ rkN n = -1 := by omega
    have h1 : (if cmZ n.pw m.pw = 0 then cmB n.dg m.dg else cmZ n.pw m.pw) = 0 := by rcases hr2 with e | e <;> rw [e] at h0 <;> omega
    have hp : n.pw = m.pw := by
      by_cases hz : cmZ n.pw m.pw = 0
      · exact (cmZ_zero _ _).1 hz
      · rw [if_neg hz] at h1; exact absurd h1 hz
    rw [if_pos ((cmZ_zero _ _).2 hp)] at h1
    have hdg := (cmB_zero _ _).1 h1
    have hnf : ∀ {l : List UInt8} {n : Nm}, dblP l = some n → n ≠ nmNaN → (rkN n = 1 ∨ rkN n = -1) → NF n := fun hn n1 hr => by
      rcases nf_dbl hn with ⟨e, _⟩ | rfl | rfl | a
      · exact absurd e n1
      · exact absurd hr (by decide)
      · exact absurd hr (by decide)
      · exact a
    have a := hnf hn n1 hr2
    have b := hnf hm m1 (by omega)
    have hd : n.dg ≠ [] := fun e => by rw [rk_nf a, if_pos e] at hr2; omega
    have hbl : n.below = m.below := by
      have hd2 : m.dg ≠ [] := by rw [← hdg]; exact hd
      rw [rk_nf a, rk_nf b, if_neg hd, if_neg hd2] at hr1
      cases h1 : n.below <;> cases h2 : m.below <;> simp [h1, h2] at hr1 ⊢
    rw [← nf_eta a, ← nf_eta b, hdg, hp, hbl]
end Go.Tk
