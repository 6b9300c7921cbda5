/- VcB VcC, laid as one. -/
import Derived.Test.YtlhcejbimlilaaaGreatDoorVcA
set_option linter.unusedVariables false
set_option linter.unusedSimpArgs false
/- Doubles read back; a decimal is a double; equal numbers. Plain. -/
namespace Go.Tk
open Go Go.RowKit
theorem numN_app (a : List UInt8) (c : UInt8) : numN (a ++ [c]) = 10 * numN a + (c.toNat - 48) := by unfold numN; rw [List.foldl_append]; rfl
theorem dig_nat {d : Nat} (h : d < 10) : (UInt8.ofNat (48 + d)).toNat = 48 + d := UInt8.toNat_ofNat_of_lt' (by show 48 + d < 256; omega)
theorem dig_dg {d : Nat} (h : d < 10) : dgB [UInt8.ofNat (48 + d)] = true := by
  unfold dgB
  simp only [List.all_cons, List.all_nil, Bool.and_true, Bool.and_eq_true, decide_eq_true_eq]
  refine ⟨UInt8.le_iff_toNat_le.2 ?_, UInt8.le_iff_toNat_le.2 ?_⟩
  · rw [dig_nat h]; show 48 ≤ 48 + d; omega
  · rw [dig_nat h]; show 48 + d ≤ 57; omega
theorem num_dec (u : Nat) : numN (Lib.decDigits u) = u ∧ dgB (Lib.decDigits u) = true ∧ Lib.decDigits u ≠ [] := by
  induction u using Nat.strongRecOn with
  | _ u ih =>
    rw [Lib.decDigits]
    by_cases h : u < 10
    · rw [dif_pos h]
      refine ⟨?_, dig_dg h, by simp⟩
      show 10 * 0 + ((UInt8.ofNat (48 + u)).toNat - 48) = u
      rw [dig_nat h]; omega
    · rw [dif_neg h]
      obtain ⟨h1, h2, h3⟩ := ih (u / 10) (by omega)
      refine ⟨?_, ?_, by simp⟩
      · rw [numN_app, h1, dig_nat (by omega)]; omega
      · rw [dgB_app, h2, dig_dg (by omega)]; rfl
theorem dec_len : ∀ (k u : Nat), u < 10 ^ (k + 1) → (Lib.decDigits u).length ≤ k + 1
  | 0, u, h => by rw [Lib.decDigits, dif_pos (by simpa using h)]; simp
  | k + 1, u, h => by
    rw [Lib.decDigits]
    split
    · simp
    · rw [List.length_append]
      have := dec_len k (u / 10) (by rw [Nat.pow_succ] at h; omega)
      simp only [List.length_singleton]
      omega
theorem itoa_sg (z : Int) : Lib.itoa z = (if decide (z < 0) = true then [45] else []) ++ Lib.decDigits z.natAbs := by
  unfold Lib.itoa
  by_cases h : z < 0
  · rw [if_pos h, decide_eq_true h]; rfl
  · rw [if_neg h, decide_eq_false h]
    rw [show z.toNat = z.natAbs from by omega]
    rfl
/-- An exponent as it is printed reads back. -/
theorem exp_back {z : Int} (h1 : -999999999 ≤ z) (h2 : z ≤ 999999999) : okE (Lib.itoa z) = true ∧ expZ (Lib.itoa z) = z := by
  obtain ⟨d1, d2, d3⟩ := num_dec z.natAbs
  have hs := sg_dg (decide (z < 0)) d3 d2
  rw [← itoa_sg] at hs
  have hl := dec_len 8 z.natAbs (by show z.natAbs < 1000000000; omega)
  unfold okE expZ
  rw [hs.1, hs.2, d1, d2]
  refine ⟨by simp [d3]; exact hl, ?_⟩
  by_cases h : z < 0
  · rw [decide_eq_true h, if_pos rfl]; omega
  · rw [decide_eq_false h, if_neg (by simp)]; omega
theorem hd_tl {a b : List UInt8} {e : UInt8} (ha : a.any isE = false) (he : isE e = true) : hdE (a ++ e :: b) = a ∧ tlE (a ++ e :: b) = b ∧ (a ++ e :: b).any isE = true := by
  have hp : ∀ c ∈ a, (!isE c) = true := fun c hc => by
    rw [List.any_eq_false] at ha
    have := ha c hc
    simpa using this
  unfold hdE tlE
  rw [List.takeWhile_append_of_pos hp, List.dropWhile_append_of_pos hp, List.takeWhile_cons, List.dropWhile_cons, he]
  refine ⟨by simp, by simp, ?_⟩
  rw [List.any_append, List.any_cons, he]; simp
theorem dbl_e {l : List UInt8} (h : l.any isE = true) : dblP l = if (okP (ctA (sgnR (hdE l))) (ctB (sgnR (hdE l))) && okE (tlE l)) = true then some (mkN (sgnB (hdE l)) (ctA (sgnR (hdE l))) (ctB (sgnR (hdE l))) (expZ (tlE l))) else none := by
  unfold dblP
  rw [if_neg, if_neg, if_neg, if_neg]
  · rw [h]; simp
  · rintro rfl; revert h; decide
  · rintro (rfl | rfl) <;> (revert h; decide)
  · rintro rfl; revert h; decide
theorem noE_dg8 {l : List UInt8} (h : dgB l = true) : l.any isE = false := by
  rw [List.any_eq_false]
  intro c hc
  have := (dg_43 (c := c) (t := []) (dgB_sub (fun d hd => by simp at hd; rw [hd]; exact hc) h)).2.2.2
  rw [this]; simp
theorem sc_some {n : Nm} (h : NF n) (hd : n.dg ≠ []) (h1 : -999999999 ≤ n.pw - 1) (h2 : n.pw - 1 ≤ 999999999) :
    scN n = some ((if n.below = true then [45] else []) ++ (n.dg.take 1 ++ [46] ++ (if n.dg.drop 1 = [] then [48] else n.dg.drop 1) ++ [69] ++ Lib.itoa (n.pw - 1))) := by
  unfold scN
  rw [h.nan, h.inf, if_neg (by simp), if_neg (by omega), if_neg (by omega), if_neg hd, if_neg (by omega)]
/-- A double's own text reads back. -/
theorem dbl_back {l : List UInt8} {n : Nm} {a : List UInt8} (hl : dblP l = some n) (ha : scN n = some a) : dblP a = some n := by
  rcases nf_dbl hl with ⟨rfl, _⟩ | rfl | rfl | h
  · obtain rfl := Option.some.inj ha; rfl
  · obtain rfl := Option.some.inj ha; rfl
  · obtain rfl := Option.some.inj ha; rfl
  by_cases hd : n.dg = []
  · obtain rfl := h.z hd
    obtain rfl := Option.some.inj ha
    rfl
  have hb : -999999999 ≤ n.pw - 1 ∧ n.pw - 1 ≤ 999999999 := by
    unfold scN at ha
    rw [h.nan, h.inf, if_neg (by simp), if_neg (by omega), if_neg (by omega), if_neg hd] at ha
    split at ha
    · cases ha
    · omega
  rw [sc_some h hd hb.1 hb.2] at ha
  obtain rfl := Option.some.inj ha
  have hE := exp_back hb.1 hb.2
  cases hc : n.dg with
  | nil => exact absurd hc hd
  | cons c t =>
  have hdg := h.dg
  rw [hc] at hdg
  have hct := dg_43 hdg
  have htl : dgB t = true := dgB_sub (fun x hx => by simp [hx]) hdg
  obtain ⟨p, hp⟩ : ∃ p, p = if t = [] then [48] else t := ⟨_, rfl⟩
  have hpd : dgB p = true := by rw [hp]; split <;> first | rfl | exact htl
  have hpj : ∃ j, c :: p = rep0 0 ++ (n.dg ++ rep0 j) := by
    rw [hp, hc]
    by_cases h0 : t = []
    · rw [if_pos h0, h0]; exact ⟨1, rfl⟩
    · rw [if_neg h0]; exact ⟨0, by show _ = [] ++ (_ ++ []); simp⟩
  obtain ⟨j, hj⟩ := hpj
  have e : ((if n.below = true then [45] else []) ++ ((c :: t).take 1 ++ [46] ++ (if (c :: t).drop 1 = [] then [48] else (c :: t).drop 1) ++ [69] ++ Lib.itoa (n.pw - 1)) : List UInt8) = ((if n.below = true then [45] else []) ++ c :: 46 :: p) ++ 69 :: Lib.itoa (n.pw - 1) := by
    rw [hp]
    simp
  rw [e]
  have hany : ((if n.below = true then [45] else []) ++ c :: 46 :: p : List UInt8).any isE = false := by
    rw [List.any_append, List.any_cons, List.any_cons, hct.2.2.2, noE_dg8 hpd]
    cases n.below <;> rfl
  obtain ⟨q1, q2, q3⟩ := hd_tl (b := Lib.itoa (n.pw - 1)) (e := 69) hany rfl
  have hs := sg_put n.below (c := c) (t := 46 :: p) hct.1 hct.2.1
  have hk := ct_dot (a := [c]) (b := p) (dgB_sub (fun x hx => by simp at hx; simp [hx]) hdg)
  have hk1 : ctA (c :: 46 :: p) = [c] := hk.1
  have hk2 : ctB (c :: 46 :: p) = p := hk.2
  rw [dbl_e q3, q1, q2, hs.1, hs.2, hk1, hk2, hE.1, hE.2]
  rw [if_pos (by
    unfold okP
    rw [hpd, dgB_sub (a := [c]) (fun x hx => by simp at hx; simp [hx]) hdg]; rfl)]
  rw [mk_mid h hd (i := 0) (j := j) (by exact hj)]
  congr 1
  refine Eq.trans ?_ (nf_eta h)
  congr 1
  simp only [List.length_singleton]
  omega
/-- A decimal's text is a double's: the same number. -/
theorem dec_noE {l : List UInt8} {n : Nm} (h : decP l = some n) : l.any isE = false := by
  unfold decP okP at h
  split at h
  · rename_i hc
    simp only [Bool.and_eq_true] at hc
    have hr : (sgnR l).any isE = false := by
      have e := List.takeWhile_append_dropWhile (p := fun c : UInt8 => c != 46) (l := sgnR l)
      rw [← e, List.any_append, Bool.or_eq_false_iff]
      refine ⟨noE_dg8 hc.1.1, ?_⟩
      have hb := hc.1.2
      unfold ctB at hb
      cases hd : (sgnR l).dropWhile (fun c : UInt8 => c != 46) with
      | nil => rfl
      | cons c t =>
        rw [hd] at hb
        have hc46 : (c != 46) = false := by
          have := List.head?_dropWhile_not (fun c : UInt8 => c != 46) (sgnR l)
          rw [hd] at this
          simpa using this
        have : c = 46 := by simpa using hc46
        subst this
        rw [List.any_cons, noE_dg8 (show dgB t = true from hb)]
        rfl
    cases l with
    | nil => rfl
    | cons c t =>
      replace hr : (if c == 43 || c == 45 then t else c :: t).any isE = false := hr
      split at hr
      · rename_i hcc
        rw [List.any_cons, hr, Bool.or_false]
        simp only [Bool.or_eq_true, beq_iff_eq] at hcc
        rcases hcc with rfl | rfl <;> rfl
      · exact hr
  · cases h
theorem dec_dbl {l : List UInt8} {n : Nm} (h : decP l = some n) : dblP l = some n := by
  unfold dblP
  rw [if_neg, if_neg, if_neg, if_pos (dec_noE h), h]
  · rintro rfl; cases h
  · rintro (rfl | rfl) <;> cases h
  · rintro rfl; cases h
theorem cmB_zero : ∀ (l m : List UInt8), cmB l m = 0 ↔ l = m
  | [], [] => by simp [cmB]
  | [], _ :: _ => by simp [cmB]
  | _ :: _, [] => by simp [cmB]
  | x :: l, y :: m => by
    simp only [cmB]
    by_cases h1 : x < y
    · rw [if_pos h1]
      refine ⟨fun h => by simp at h, fun h => ?_⟩
      obtain ⟨rfl, _⟩ := List.cons.inj h
      exact absurd h1 (by rw [UInt8.lt_iff_toNat_lt]; omega)
    · rw [if_neg h1]
      by_cases h2 : y < x
      · rw [if_pos h2]
        refine ⟨fun h => by simp at h, fun h => ?_⟩
        obtain ⟨rfl, _⟩ := List.cons.inj h
        exact absurd h2 (by rw [UInt8.lt_iff_toNat_lt]; omega)
      · rw [if_neg h2, cmB_zero l m]
        have : x = y := by
          apply UInt8.toNat.inj
          rw [UInt8.lt_iff_toNat_lt] at h1 h2
          omega
        rw [this]
        simp
theorem cmZ_zero (a b : Int) : cmZ a b = 0 ↔ a = b := by
  unfold cmZ
  split
  · omega
  split <;> omega
theorem ag_self {n : Nm} (h : n.nan = false) : agN n n = (0, true) := by
  unfold agN
  rw [h, if_neg (by simp), (cmZ_zero _ _).2 rfl, (cmZ_zero n.pw n.pw).2 rfl, if_pos rfl, (cmB_zero _ _).2 rfl]
  split
  · rfl
  · simp
theorem rk_nf {n : Nm} (h : NF n) : rkN n = if n.dg = [] then 0 else if n.below = true then -1 else 1 := by
  unfold rkN; rw [h.inf]; simp
/-- Numbers that are held the same are the same. -/
theorem ag_zero {n m : Nm} {l k : List UInt8} (hn : dblP l = some n) (hm : dblP k = some m) (h : agN n m = (0, true)) : n = m := by
  unfold agN at h
  split at h
  · cases h
  rename_i hnan
  have n1 : n ≠ nmNaN := fun e => hnan (.inl (by rw [e]; rfl))
  have m1 : m ≠ nmNaN := fun e => hnan (.inr (by rw [e]; rfl))
  split at h
  · rename_i hr
    have hz := (cmZ_zero _ _).1 (Prod.mk.inj h).1
    rcases nf_dbl hn with ⟨e, _⟩ | rfl | rfl | a
    · exact absurd e n1
    · rcases nf_dbl hm with ⟨e, _⟩ | rfl | rfl | b
      · exact absurd e m1
      · rfl
      · exact absurd hz (by decide)
      · rw [rk_nf b] at hz; rw [show rkN (nmInf 1) = 2 from rfl] at hz; split at hz <;> (try split at hz) <;> omega
    · rcases nf_dbl hm with ⟨e, _⟩ | rfl | rfl | b
      · exact absurd e m1
      · exact absurd hz (by decide)
      · rfl
      · rw [rk_nf b] at hz; rw [show rkN (nmInf (-1)) = -2 from rfl] at hz; split at hz <;> (try split at hz) <;> omega
    · rcases nf_dbl hm with ⟨e, _⟩ | rfl | rfl | b
      · exact absurd e m1
      · rw [rk_nf a] at hz; rw [show rkN (nmInf 1) = 2 from rfl] at hz; split at hz <;> (try split at hz) <;> omega
      · rw [rk_nf a] at hz; rw [show rkN (nmInf (-1)) = -2 from rfl] at hz; split at hz <;> (try split at hz) <;> omega
      · have hr2 : rkN n ≠ 1 ∧ rkN n ≠ -1 := by omega
        have d1 : n.dg = [] := by
          by_cases hd : n.dg = []
          · exact hd
          · rw [rk_nf a, if_neg hd] at hr2; split at hr2 <;> omega
        have hr3 : rkN m ≠ 1 ∧ rkN m ≠ -1 := by omega
        have d2 : m.dg = [] := by
          by_cases hd : m.dg = []
          · exact hd
          · rw [rk_nf b, if_neg hd] at hr3; split at hr3 <;> omega
        rw [a.z d1, b.z d2]
  · rename_i hr
    have h0 := (Prod.mk.inj h).1
    have hr1 : rkN n = rkN m := by omega
    have hr2 : rkN n = 1 ∨ rkN n = -1 := by omega
    have h1 : (if cmZ n.pw m.pw = 0 then cmB n.dg m.dg else cmZ n.pw m.pw) = 0 := by rcases hr2 with e | e <;> rw [e] at h0 <;> omega
    have hp : n.pw = m.pw := by
      by_cases hz : cmZ n.pw m.pw = 0
      · exact (cmZ_zero _ _).1 hz
      · rw [if_neg hz] at h1; exact absurd h1 hz
    rw [if_pos ((cmZ_zero _ _).2 hp)] at h1
    have hdg := (cmB_zero _ _).1 h1
    have hnf : ∀ {l : List UInt8} {n : Nm}, dblP l = some n → n ≠ nmNaN → (rkN n = 1 ∨ rkN n = -1) → NF n := fun hn n1 hr => by
      rcases nf_dbl hn with ⟨e, _⟩ | rfl | rfl | a
      · exact absurd e n1
      · exact absurd hr (by decide)
      · exact absurd hr (by decide)
      · exact a
    have a := hnf hn n1 hr2
    have b := hnf hm m1 (by omega)
    have hd : n.dg ≠ [] := fun e => by rw [rk_nf a, if_pos e] at hr2; omega
    have hbl : n.below = m.below := by
      have hd2 : m.dg ≠ [] := by rw [← hdg]; exact hd
      rw [rk_nf a, rk_nf b, if_neg hd, if_neg hd2] at hr1
      cases h1 : n.below <;> cases h2 : m.below <;> simp [h1, h2] at hr1 ⊢
    rw [← nf_eta a, ← nf_eta b, hdg, hp, hbl]
end Go.Tk
/- Dates, times, zones: what is printed reads back; each day has a date. Plain. -/
namespace Go.Tk
open Go Go.RowKit
theorem numN_rep (n : Nat) (l : List UInt8) : numN (rep0 n ++ l) = numN l := by
  induction n with
  | zero => rfl
  | succ n ih => rw [rep0_succ, List.cons_append]; exact ih
/-- A number in so many digits at least. -/
theorem pd_num {n : Int} (h : 0 ≤ n) (k : Nat) : dgB (pdP n k) = true ∧ (numN (pdP n k) : Int) = n ∧ pdP n k ≠ [] := by
  obtain ⟨d1, d2, d3⟩ := num_dec n.natAbs
  have e : Lib.itoa n = Lib.decDigits n.natAbs := by rw [itoa_sg, decide_eq_false (by omega)]; rfl
  unfold pdP
  rw [e]
  refine ⟨by rw [dgB_app, dgB_rep, d2]; rfl, by rw [numN_rep, d1]; omega, by simp [d3]⟩
theorem dec_two {u : Nat} (h : u < 100) : rep0 (2 - (Lib.decDigits u).length) ++ Lib.decDigits u = [UInt8.ofNat (48 + u / 10), UInt8.ofNat (48 + u % 10)] := by
  by_cases h1 : u < 10
  · rw [Lib.decDigits, dif_pos h1, show u / 10 = 0 from by omega, show u % 10 = u from by omega]; rfl
  · rw [Lib.decDigits, dif_neg h1, Lib.decDigits, dif_pos (show u / 10 < 10 by omega)]; rfl
theorem pd_two {n : Int} (h : 0 ≤ n) (h2 : n < 100) : pdP n 2 = [UInt8.ofNat (48 + n.toNat / 10), UInt8.ofNat (48 + n.toNat % 10)] := by
  have e : Lib.itoa n = Lib.decDigits n.toNat := by rw [itoa_sg, decide_eq_false (by omega), show n.natAbs = n.toNat from by omega]; rfl
  unfold pdP
  rw [e]
  exact dec_two (by omega)
theorem two_back {n : Int} (h : 0 ≤ n) (h2 : n < 100) (r mk : List UInt8) (hr : Lib.hasPrefix r mk = true) : twoP (pdP n 2 ++ r) mk = some (n, r.drop mk.length) := by
  rw [pd_two h h2]
  have d1 := dig_dg (show n.toNat / 10 < 10 by omega)
  have d2 := dig_dg (show n.toNat % 10 < 10 by omega)
  have hd : dgB [UInt8.ofNat (48 + n.toNat / 10), UInt8.ofNat (48 + n.toNat % 10)] = true := by
    have := dgB_app [UInt8.ofNat (48 + n.toNat / 10)] [UInt8.ofNat (48 + n.toNat % 10)]
    rw [d1, d2] at this; exact this
  show (if (dgB [UInt8.ofNat (48 + n.toNat / 10), UInt8.ofNat (48 + n.toNat % 10)] && Lib.hasPrefix r mk) = true then some ((((UInt8.ofNat (48 + n.toNat / 10)).toNat : Int) - 48) * 10 + (((UInt8.ofNat (48 + n.toNat % 10)).toNat : Int) - 48), r.drop mk.length) else none) = _
  rw [hd, hr, Bool.and_self, if_pos rfl, dig_nat (show n.toNat / 10 < 10 by omega), dig_nat (show n.toNat % 10 < 10 by omega)]
  congr 2
  omega
theorem pre_one (c : UInt8) (l : List UInt8) : Lib.hasPrefix (c :: l) [c] = true := by unfold Lib.hasPrefix; simp
theorem pre_nil (l : List UInt8) : Lib.hasPrefix l [] = true := rfl
theorem pre_no {c d : UInt8} (l : List UInt8) (h : c ≠ d) : Lib.hasPrefix (c :: l) [d] = false := by unfold Lib.hasPrefix; rw [List.isPrefixOf_cons_cons, beq_false_of_ne (Ne.symm h)]; rfl
/-- How a zone's text begins. -/
theorem rdZ_hd {z : List UInt8} {x : Bool × Int} (h : rdZ z = some x) : z = [] ∨ ∃ c t, z = c :: t ∧ (c = 90 ∨ c = 43 ∨ c = 45) := by
  unfold rdZ at h
  split at h
  · exact .inl rfl
  · rename_i c t
    split at h
    · rename_i hc; exact .inr ⟨c, t, rfl, .inl hc.1⟩
    · split at h
      · cases h
      · rename_i hc; exact .inr ⟨c, t, rfl, by
          by_cases h1 : c = 43
          · exact .inr (.inl h1)
          · exact .inr (.inr (by by_cases h2 : c = 45; exact h2; exact absurd ⟨h1, h2⟩ hc))⟩
theorem rdZ_un {z : List UInt8} {k : Int} (h : rdZ z = some (false, k)) : z = [] ∧ k = 0 := by
  unfold rdZ at h
  split at h
  · exact ⟨rfl, by cases h; rfl⟩
  · split at h
    · cases h
    · split at h
      · cases h
      · split at h
        · cases h
        · split at h
          · cases h
          · split at h <;> cases h
theorem in_back {s : Int} {p z : List UInt8} {m : Mt} (h : inP s p z = some m) : inP s p m.sp = some m ∧ m.sec = s ∧ m.part = p ∧ rdZ m.sp = some (m.zoned, m.zone) := by
  unfold inP at h ⊢
  cases hz : rdZ z with
  | none => rw [hz] at h; cases h
  | some x =>
    rw [hz] at h
    obtain rfl := Option.some.inj h
    dsimp only
    by_cases hx : x.1 = true ∧ x.2 = 0
    · rw [if_pos hx]
      have e : rdZ [90] = some (true, 0) := rfl
      rw [e]
      obtain ⟨a, b⟩ := x
      obtain ⟨rfl, rfl⟩ := hx
      exact ⟨rfl, rfl, rfl, rfl⟩
    · rw [if_neg hx, hz]
      refine ⟨?_, rfl, rfl, rfl⟩
      show some (⟨s, p, x.1, x.2, if x.1 = true ∧ x.2 = 0 then [90] else z⟩ : Mt) = _
      rw [if_neg hx]
/-- The digits behind a dot. -/
theorem rdF_part {r p e : List UInt8} (h : rdF r = some (p, e)) : dgB p = true ∧ tr0 p = p := by
  unfold rdF at h
  split at h
  · split at h
    · cases h
    · obtain ⟨rfl, rfl⟩ := Prod.mk.inj (Option.some.inj h)
      refine ⟨dgB_sub (fun c hc => tr0_mem c hc) ?_, tr0_idem _⟩
      unfold dgN dgB
      have e : ∀ (l : List UInt8) (q : UInt8 → Bool), l.take (l.takeWhile q).length = l.takeWhile q := fun l q => by
        have := List.takeWhile_append_dropWhile (p := q) (l := l)
        have h2 : (l.takeWhile q ++ l.dropWhile q).take (l.takeWhile q).length = l.takeWhile q := List.take_left
        rw [this] at h2
        exact h2
      rw [e]
      exact List.all_takeWhile
  · obtain ⟨rfl, rfl⟩ := Prod.mk.inj (Option.some.inj h)
    exact ⟨rfl, rfl⟩
theorem rdF_back {p z : List UInt8} {x : Bool × Int} (hp : dgB p = true) (ht : tr0 p = p) (hz : rdZ z = some x) : rdF ((if p = [] then [] else 46 :: p) ++ z) = some (p, z) := by
  have hzh : ∀ c t, z = c :: t → c ≠ 46 ∧ (decide (48 ≤ c) && decide (c ≤ 57)) = false := fun c t hc => by
    rcases rdZ_hd hz with rfl | ⟨c', t', rfl, h⟩
    · cases hc
    · obtain ⟨rfl, rfl⟩ := List.cons.inj hc
      rcases h with rfl | rfl | rfl <;> exact ⟨by decide, by decide⟩
  by_cases h0 : p = []
  · rw [if_pos h0, h0, List.nil_append]
    unfold rdF
    have e : Lib.hasPrefix z [46] = false := by
      cases hc : z with
      | nil => rfl
      | cons c t => exact pre_no t (hzh c t hc).1
    rw [e, if_neg (by simp)]
  · rw [if_neg h0, List.cons_append]
    unfold rdF
    rw [if_pos (pre_one 46 _), List.drop_succ_cons, List.drop_zero]
    have hd : dgN (p ++ z) = p.length := by
      unfold dgN
      rw [List.takeWhile_append_of_pos (fun c hc => List.all_eq_true.1 hp c hc)]
      cases hc : z with
      | nil => simp
      | cons c t => rw [List.takeWhile_cons, (hzh c t hc).2]; simp
    rw [hd, if_neg (by simpa using h0), List.take_left, List.drop_left, ht]
/-- A time as it is printed reads back. -/
theorem rdT_back {sec : Int} {p z : List UInt8} {x : Bool × Int} (hp : dgB p = true) (ht : tr0 p = p) (hz : rdZ z = some x) : rdT (ckP sec p ++ z) = some (sec % 86400, p, z) := by
  have b0 : 0 ≤ sec % 86400 := by omega
  have b1 : sec % 86400 < 86400 := by omega
  obtain ⟨s, hs⟩ : ∃ s, s = sec % 86400 := ⟨_, rfl⟩
  unfold ckP
  rw [← hs] at b0 b1 ⊢
  have e : pdP (s / 3600) 2 ++ [58] ++ pdP (s / 60 % 60) 2 ++ [58] ++ pdP (s % 60) 2 ++ (if p = [] then [] else 46 :: p) ++ z = pdP (s / 3600) 2 ++ (58 :: (pdP (s / 60 % 60) 2 ++ (58 :: (pdP (s % 60) 2 ++ ((if p = [] then [] else 46 :: p) ++ z))))) := by simp
  rw [e]
  unfold rdT rdH
  rw [two_back (by omega) (by omega) _ _ (pre_one 58 _)]
  dsimp only [List.length_singleton]
  rw [List.drop_succ_cons, List.drop_zero, two_back (by omega) (by omega) _ _ (pre_one 58 _)]
  dsimp only [List.length_singleton]
  rw [List.drop_succ_cons, List.drop_zero, two_back (by omega) (by omega) _ _ (pre_nil _)]
  dsimp only [List.length_nil]
  rw [List.drop_zero, if_neg (by omega)]
  dsimp only
  rw [rdF_back hp ht hz]
  dsimp only
  rw [if_neg (by omega)]
  have e2 : s / 3600 * 3600 + s / 60 % 60 * 60 + s % 60 = s := by omega
  rw [e2]
theorem idx_app {a b : List UInt8} (h : dgB a = true) : Lib.indexByte (a ++ 45 :: b) 45 = a.length := by
  induction a with
  | nil => rfl
  | cons c t ih =>
    have hc := (dg_43 h).2.1
    have := ih (dgB_sub (fun x hx => by simp [hx]) h)
    rw [List.cons_append]
    unfold Lib.indexByte
    rw [this, beq_false_of_ne hc, if_neg (by simp), if_neg (by simp)]
    simp
theorem dec_head : ∀ u : Nat, 0 < u → ∃ c t, Lib.decDigits u = c :: t ∧ c ≠ 48 := by
  intro u
  induction u using Nat.strongRecOn with
  | _ u ih =>
    intro h
    rw [Lib.decDigits]
    by_cases h1 : u < 10
    · rw [dif_pos h1]
      refine ⟨_, [], rfl, fun e => ?_⟩
      have := congrArg UInt8.toNat e
      rw [dig_nat h1] at this
      have e48 : (48 : UInt8).toNat = 48 := rfl
      rw [e48] at this
      omega
    · rw [dif_neg h1]
      obtain ⟨c, t, hc, h48⟩ := ih (u / 10) (by omega) (by omega)
      exact ⟨c, t ++ [UInt8.ofNat (48 + u % 10)], by rw [hc]; rfl, h48⟩
/-- A year as it is printed. -/
theorem yr_text {y : Int} (h : 0 ≤ y) (h2 : y ≤ 999999999) : 4 ≤ (pdP y 4).length ∧ (pdP y 4).length ≤ 9 ∧ (4 < (pdP y 4).length → (pdP y 4).head? ≠ some 48) := by
  have e : Lib.itoa y = Lib.decDigits y.toNat := by rw [itoa_sg, decide_eq_false (by omega), show y.natAbs = y.toNat from by omega]; rfl
  have hl := dec_len 8 y.toNat (by show y.toNat < 1000000000; omega)
  unfold pdP
  rw [e, List.length_append, len_rep]
  refine ⟨by omega, by omega, fun h4 => ?_⟩
  have h5 : 4 - (Lib.decDigits y.toNat).length = 0 := by omega
  rw [h5]
  have h0 : 0 < y.toNat := by
    rcases Nat.eq_zero_or_pos y.toNat with e0 | e0
    · rw [e0, Lib.decDigits, dif_pos (by omega)] at h4; simp at h4
    · exact e0
  obtain ⟨c, t, hc, h48⟩ := dec_head _ h0
  rw [hc]
  show some c ≠ some 48
  simpa using h48
/-- A date as it is printed reads back. -/
theorem rdY_back {y m d : Int} {r : List UInt8} (hm : 1 ≤ m) (hm2 : m ≤ 12) (hd : 1 ≤ d) (hd2 : d ≤ mdP y m) (hy : (if y < 0 then -y else y) ≤ 999999999) : rdY (dtP y m d ++ r) = some (y, m, d, r) := by
  obtain ⟨Y, hY⟩ : ∃ Y, Y = if y < 0 then -y else y := ⟨_, rfl⟩
  have hY0 : 0 ≤ Y := by rw [hY]; split <;> omega
  unfold dtP
  rw [← hY] at hy ⊢
  obtain ⟨q1, q2, q3⟩ := yr_text hY0 hy
  obtain ⟨p1, p2, p3⟩ := pd_num hY0 4
  obtain ⟨P, hP⟩ : ∃ P, P = pdP Y 4 := ⟨_, rfl⟩
  rw [← hP] at q1 q2 q3 p1 p2 p3 ⊢
  have e : (if y < 0 then [45] else []) ++ P ++ [45] ++ pdP m 2 ++ [45] ++ pdP d 2 ++ r = (if y < 0 then [45] else []) ++ (P ++ 45 :: (pdP m 2 ++ 45 :: (pdP d 2 ++ r))) := by simp
  rw [e]
  have hng : ngB ((if y < 0 then [45] else []) ++ (P ++ 45 :: (pdP m 2 ++ 45 :: (pdP d 2 ++ r)))) = decide (y < 0) ∧ ngR ((if y < 0 then [45] else []) ++ (P ++ 45 :: (pdP m 2 ++ 45 :: (pdP d 2 ++ r)))) = P ++ 45 :: (pdP m 2 ++ 45 :: (pdP d 2 ++ r)) := by
    unfold ngR Lib.trimPrefix ngB
    by_cases h : y < 0
    · rw [if_pos h, decide_eq_true h]
      exact ⟨pre_one 45 _, if_pos (pre_one 45 _)⟩
    · rw [if_neg h, decide_eq_false h, List.nil_append]
      cases hc : P with
      | nil => exact absurd hc p3
      | cons c t =>
        rw [hc] at p1
        have hf := pre_no (t ++ 45 :: (pdP m 2 ++ 45 :: (pdP d 2 ++ r))) (dg_43 p1).2.1
        exact ⟨hf, by rw [List.cons_append, hf, if_neg (by simp)]⟩
  have hyr : yrI (P ++ 45 :: (pdP m 2 ++ 45 :: (pdP d 2 ++ r))) = P.length := idx_app p1
  have hok : okY (P ++ 45 :: (pdP m 2 ++ 45 :: (pdP d 2 ++ r))) = true := by
    unfold okY
    rw [hyr, Int.toNat_natCast, List.take_left, p1, decide_eq_true (by omega), decide_eq_true (by omega)]
    cases hc : P with
    | nil => exact absurd hc p3
    | cons c t =>
      rw [hc] at q3
      by_cases h4 : 4 < (c :: t).length
      · have := q3 h4
        simp only [List.head?_cons, ne_eq, Option.some.injEq] at this
        simp [this]
      · rw [decide_eq_false (by omega)]; rfl
  have hz : yrZ ((if y < 0 then [45] else []) ++ (P ++ 45 :: (pdP m 2 ++ 45 :: (pdP d 2 ++ r)))) = y := by
    unfold yrZ
    rw [hng.1, hng.2, hyr, Int.toNat_natCast, List.take_left, p2]
    by_cases h : y < 0
    · rw [decide_eq_true h, if_pos rfl, hY, if_pos h]; omega
    · rw [decide_eq_false h, if_neg (by simp), hY, if_neg h]
  unfold rdY
  rw [hz, hng.2, hok, if_pos rfl, hyr, Int.toNat_natCast]
  have hdr : (P ++ 45 :: (pdP m 2 ++ 45 :: (pdP d 2 ++ r))).drop (P.length + 1) = pdP m 2 ++ 45 :: (pdP d 2 ++ r) := by
    rw [List.drop_append]
    simp
  have hmd := mdP_bd y m
  rw [hdr, two_back (by omega) (by omega) _ _ (pre_one 45 _)]
  dsimp only [List.length_singleton]
  rw [if_neg (by omega), List.drop_succ_cons, List.drop_zero, two_back (by omega) (by omega) _ _ (pre_nil _)]
  dsimp only [List.length_nil]
  rw [if_neg (by omega), List.drop_zero]
/-- Each day has a date. -/
theorem yr_ex (n : Int) : ∀ (k : Nat) (y : Int), ydP y ≤ n → n < ydP y + 365 * k → ∃ y', ydP y' ≤ n ∧ n < ydP (y' + 1)
  | 0, y, h1, h2 => by simp at h2; omega
  | k + 1, y, h1, h2 => by
    by_cases h : n < ydP (y + 1)
    · exact ⟨y, h1, h⟩
    · have e := ydP_succ y
      have b := lpN_bd y
      exact yr_ex n k (y + 1) (by omega) (by omega)
theorem mo_ex (y l : Int) (h0 : 0 ≤ l) : ∀ k : Nat, l < cmP y k → ∃ j : Nat, j < k ∧ cmP y j ≤ l ∧ l < cmP y (j + 1)
  | 0, h => by simp [cmP] at h; omega
  | k + 1, h => by
    by_cases hk : l < cmP y k
    · obtain ⟨j, a, b, c⟩ := mo_ex y l h0 k hk
      exact ⟨j, by omega, b, c⟩
    · exact ⟨k, by omega, by omega, h⟩
theorem date_ex (n : Int) : ∃ y m d, IsDate n y m d := by
  obtain ⟨y0, hy0⟩ : ∃ y0, ydP y0 ≤ n := by
    refine ⟨-(n.natAbs : Int) - 1, ?_⟩
    have := ydP_le (a := -(n.natAbs : Int) - 1) (b := 0) (by omega)
    have e : ydP 0 = 0 := rfl
    omega
  obtain ⟨y, h1, h2⟩ := yr_ex n ((n - ydP y0).toNat + 1) y0 hy0 (by omega)
  have e := ydP_succ y
  obtain ⟨j, a, b, c⟩ := mo_ex y (n - ydP y) (by omega) 12 (by rw [cmP_12]; omega)
  have c' : n - ydP y < cmP y j + mdP y ((j : Int) + 1) := c
  refine ⟨y, (j : Int) + 1, n - ydP y - cmP y j + 1, ⟨by omega, by omega, by omega, by omega, ?_⟩⟩
  unfold dyP
  rw [show ((j : Int) + 1 - 1).toNat = j by omega]
  omega
end Go.Tk
