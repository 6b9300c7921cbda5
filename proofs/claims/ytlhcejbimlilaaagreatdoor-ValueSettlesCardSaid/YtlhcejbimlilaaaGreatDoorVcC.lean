/- Dates, times, zones: what is printed reads back; each day has a date. Plain. -/
import Derived.Test.YtlhcejbimlilaaaGreatDoorVcB
import Derived.Test.YtlhcejbimlilaaaGreatDoorVbN
set_option linter.unusedVariables false
set_option linter.unusedSimpArgs false
namespace Go.Tk
open Go Go.RowKit
theorem numN_rep (n : Nat) (l : List UInt8) : numN (rep0 n ++ l) = numN l := by
  induction n with
  | zero => rfl
  | succ n ih => rw [rep0_succ, List.cons_append]; exact ih
/-- A number in so many digits at least. -/
theorem pd_num {n : Int} (h : 0 ≤ n) (k : Nat) : dgB (pdP n k) = true ∧ (numN (pdP n k) : Int) = n ∧ pdP n k ≠ [] := by
  obtain ⟨d1, d2, d3⟩ := num_dec n.natAbs
  have e : Lib.itoa n = Lib.decDigits n.natAbs := by rw [itoa_sg, decide_eq_false (by omega)]; rfl
  unfold pdP
  rw [e]
  refine ⟨by rw [dgB_app, dgB_rep, d2]; rfl, by rw [numN_rep, d1]; omega, by simp [d3]⟩
theorem dec_two {u : Nat} (h : u < 100) : rep0 (2 - (Lib.decDigits u).length) ++ Lib.decDigits u = [UInt8.ofNat (48 + u / 10), UInt8.ofNat (48 + u % 10)] := by
  by_cases h1 : u < 10
  · rw [Lib.decDigits, dif_pos h1, show u / 10 = 0 from by omega, show u % 10 = u from by omega]; rfl
  · rw [Lib.decDigits, dif_neg h1, Lib.decDigits, dif_pos (show u / 10 < 10 by omega)]; rfl
theorem pd_two {n : Int} (h : 0 ≤ n) (h2 : n < 100) : pdP n 2 = [UInt8.ofNat (48 + n.toNat / 10), UInt8.ofNat (48 + n.toNat % 10)] := by
  have e : Lib.itoa n = Lib.decDigits n.toNat := by rw [itoa_sg, decide_eq_false (by omega), show n.natAbs = n.toNat from by omega]; rfl
  unfold pdP
  rw [e]
  exact dec_two (by omega)
theorem two_back {n : Int} (h : 0 ≤ n) (h2 : n < 100) (r mk : List UInt8) (hr : Lib.hasPrefix r mk = true) : twoP (pdP n 2 ++ r) mk = some (n, r.drop mk.length) := by
  rw [pd_two h h2]
  have d1 := dig_dg (show n.toNat / 10 < 10 by omega)
  have d2 := dig_dg (show n.toNat % 10 < 10 by omega)
  have hd : dgB [UInt8.ofNat (48 + n.toNat / 10), UInt8.ofNat (48 + n.toNat % 10)] = true := by
    have := dgB_app [UInt8.ofNat (48 + n.toNat / 10)] [UInt8.ofNat (48 + n.toNat % 10)]
    rw [d1, d2] at this; exact this
  show (if (dgB [UInt8.ofNat (48 + n.toNat / 10), UInt8.ofNat (48 + n.toNat % 10)] && Lib.hasPrefix r mk) = true then some ((((UInt8.ofNat (48 + n.toNat / 10)).toNat : Int) - 48) * 10 + (((UInt8.ofNat (48 + n.toNat % 10)).toNat : Int) - 48), r.drop mk.length) else none) = _
  rw [hd, hr, Bool.and_self, if_pos rfl, dig_nat (show n.toNat / 10 < 10 by omega), dig_nat (show n.toNat % 10 < 10 by omega)]
  congr 2
  omega
theorem pre_one (c : UInt8) (l : List UInt8) : Lib.hasPrefix (c :: l) [c] = true := by unfold Lib.hasPrefix; simp
theorem pre_nil (l : List UInt8) : Lib.hasPrefix l [] = true := rfl
theorem pre_no {c d : UInt8} (l : List UInt8) (h : c ≠ d) : Lib.hasPrefix (c :: l) [d] = false := by unfold Lib.hasPrefix; rw [List.isPrefixOf_cons_cons, beq_false_of_ne (Ne.symm h)]; rfl
/-- How a zone's text begins. -/
theorem rdZ_hd {z : List UInt8} {x : Bool × Int} (h : rdZ z = some x) : z = [] ∨ ∃ c t, z = c :: t ∧ (c = 90 ∨ c = 43 ∨ c = 45) := by
  unfold rdZ at h
  split at h
  · exact .inl rfl
  · rename_i c t
    split at h
    · rename_i hc; exact .inr ⟨c, t, rfl, .inl hc.1⟩
    · split at h
      · cases h
      · rename_i hc; exact .inr ⟨c, t, rfl, by
          by_cases h1 : c = 43
          · exact .inr (.inl h1)
          · exact .inr (.inr (by by_cases h2 : c = 45; exact h2; exact absurd ⟨h1, h2⟩ hc))⟩
theorem rdZ_un {z : List UInt8} {k : Int} (h : rdZ z = some (false, k)) : z = [] ∧ k = 0 := by
  unfold rdZ at h
  split at h
  · exact ⟨rfl, by cases h; rfl⟩
  · split at h
    · cases h
    · split at h
      · cases h
      · split at h
        · cases h
        · split at h
          · cases h
          · split at h <;> cases h
theorem in_back {s : Int} {p z : List UInt8} {m : Mt} (h : inP s p z = some m) : inP s p m.sp = some m ∧ m.sec = s ∧ m.part = p ∧ rdZ m.sp = some (m.zoned, m.zone) := by
  unfold inP at h ⊢
  cases hz : rdZ z with
  | none => rw [hz] at h; cases h
  | some x =>
    rw [hz] at h
    obtain rfl := Option.some.inj h
    dsimp only
    by_cases hx : x.1 = true ∧ x.2 = 0
    · rw [if_pos hx]
      have e : rdZ [90] = some (true, 0) := rfl
      rw [e]
      obtain ⟨a, b⟩ := x
      obtain ⟨rfl, rfl⟩ := hx
      exact ⟨rfl, rfl, rfl, rfl⟩
    · rw [if_neg hx, hz]
      refine ⟨?_, rfl, rfl, rfl⟩
      show some (⟨s, p, x.1, x.2, if x.1 = true ∧ x.2 = 0 then [90] else z⟩ : Mt) = _
      rw [if_neg hx]
/-- The digits behind a dot. -/
theorem rdF_part {r p e : List UInt8} (h : rdF r = some (p, e)) : dgB p = true ∧ tr0 p = p := by
  unfold rdF at h
  split at h
  · split at h
    · cases h
    · obtain ⟨rfl, rfl⟩ := Prod.mk.inj (Option.some.inj h)
      refine ⟨dgB_sub (fun c hc => tr0_mem c hc) ?_, tr0_idem _⟩
      unfold dgN dgB
      have e : ∀ (l : List UInt8) (q : UInt8 → Bool), l.take (l.takeWhile q).length = l.takeWhile q := fun l q => by
        have := List.takeWhile_append_dropWhile (p := q) (l := l)
        have h2 : (l.takeWhile q ++ l.dropWhile q).take (l.takeWhile q).length = l.takeWhile q := List.take_left
        rw [this] at h2
        exact h2
      rw [e]
      exact List.all_takeWhile
  · obtain ⟨rfl, rfl⟩ := Prod.mk.inj (Option.some.inj h)
    exact ⟨rfl, rfl⟩
theorem rdF_back {p z : List UInt8} {x : Bool × Int} (hp : dgB p = true) (ht : tr0 p = p) (hz : rdZ z = some x) : rdF ((if p = [] then [] else 46 :: p) ++ z) = some (p, z) := by
  have hzh : ∀ c t, z = c :: t → c ≠ 46 ∧ (decide (48 ≤ c) && decide (c ≤ 57)) = false := fun c t hc => by
    rcases rdZ_hd hz with rfl | ⟨c', t', rfl, h⟩
    · cases hc
    · obtain ⟨rfl, rfl⟩ := List.cons.inj hc
      rcases h with rfl | rfl | rfl <;> exact ⟨by decide, by decide⟩
  by_cases h0 : p = []
  · rw [if_pos h0, h0, List.nil_append]
    unfold rdF
    have e : Lib.hasPrefix z [46] = false := by
      cases hc : z with
      | nil => rfl
      | cons c t => exact pre_no t (hzh c t hc).1
    rw [e, if_neg (by simp)]
  · rw [if_neg h0, List.cons_append]
    unfold rdF
    rw [if_pos (pre_one 46 _), List.drop_succ_cons, List.drop_zero]
    have hd : dgN (p ++ z) = p.length := by
      unfold dgN
      rw [List.takeWhile_append_of_pos (fun c hc => List.all_eq_true.1 hp c hc)]
      cases hc : z with
      | nil => simp
      | cons c t => rw [List.takeWhile_cons, (hzh c t hc).2]; simp
    rw [hd, if_neg (by simpa using h0), List.take_left, List.drop_left, ht]
/-- A time as it is printed reads back. -/
theorem rdT_back {sec : Int} {p z : List UInt8} {x : Bool × Int} (hp : dgB p = true) (ht : tr0 p = p) (hz : rdZ z = some x) : rdT (ckP sec p ++ z) = some (sec % 86400, p, z) := by
  have b0 : 0 ≤ sec % 86400 := by omega
  have b1 : sec % 86400 < 86400 := by omega
  obtain ⟨s, hs⟩ : ∃ s, s = sec % 86400 := ⟨_, rfl⟩
  unfold ckP
  rw [← hs] at b0 b1 ⊢
  have e : pdP (s / 3600) 2 ++ [58] ++ pdP (s / 60 % 60) 2 ++ [58] ++ pdP (s % 60) 2 ++ (if p = [] then [] else 46 :: p) ++ z = pdP (s / 3600) 2 ++ (58 :: (pdP (s / 60 % 60) 2 ++ (58 :: (pdP (s % 60) 2 ++ ((if p = [] then [] else 46 :: p) ++ z))))) := by simp
  rw [e]
  unfold rdT rdH
  rw [two_back (by omega) (by omega) _ _ (pre_one 58 _)]
  dsimp only [List.length_singleton]
  rw [List.drop_succ_cons, List.drop_zero, two_back (by omega) (by omega) _ _ (pre_one 58 _)]
  dsimp only [List.length_singleton]
  rw [List.drop_succ_cons, List.drop_zero, two_back (by omega) (by omega) _ _ (pre_nil _)]
  dsimp only [List.length_nil]
  rw [List.drop_zero, if_neg (by omega)]
  dsimp only
  rw [rdF_back hp ht hz]
  dsimp only
  rw [if_neg (by omega)]
  have e2 : s / 3600 * 3600 + s / 60 % 60 * 60 + s % 60 = s := by omega
  rw [e2]
theorem idx_app {a b : List UInt8} (h : dgB a = true) : Lib.indexByte (a ++ 45 :: b) 45 = a.length := by
  induction a with
  | nil => rfl
  | cons c t ih =>
    have hc := (dg_43 h).2.1
    have := ih (dgB_sub (fun x hx => by simp [hx]) h)
    rw [List.cons_append]
    unfold Lib.indexByte
    rw [this, beq_false_of_ne hc, if_neg (by simp), if_neg (by simp)]
    simp
theorem dec_head : ∀ u : Nat, 0 < u → ∃ c t, Lib.decDigits u = c :: t ∧ c ≠ 48 := by
  intro u
  induction u using Nat.strongRecOn with
  | _ u ih =>
    intro h
    rw [Lib.decDigits]
    by_cases h1 : u < 10
    · rw [dif_pos h1]
      refine ⟨_, [], rfl, fun e => ?_⟩
      have := congrArg UInt8.toNat e
      rw [dig_nat h1] at this
      have e48 : (48 : UInt8).toNat = 48 := rfl
      rw [e48] at this
      omega
    · rw [dif_neg h1]
      obtain ⟨c, t, hc, h48⟩ := ih (u / 10) (by omega) (by omega)
      exact ⟨c, t ++ [UInt8.ofNat (48 + u % 10)], by rw [hc]; rfl, h48⟩
/-- A year as it is printed. -/
theorem yr_text {y : Int} (h : 0 ≤ y) (h2 : y ≤ 999999999) : 4 ≤ (pdP y 4).length ∧ (pdP y 4).length ≤ 9 ∧ (4 < (pdP y 4).length → (pdP y 4).head? ≠ some 48) := by
  have e : Lib.itoa y = Lib.decDigits y.toNat := by rw [itoa_sg, decide_eq_false (by omega), show y.natAbs = y.toNat from by omega]; rfl
  have hl := dec_len 8 y.toNat (by show y.toNat < 1000000000; omega)
  unfold pdP
  rw [e, List.length_append, len_rep]
  refine ⟨by omega, by omega, fun h4 => ?_⟩
  have h5 : 4 - (Lib.decDigits y.toNat).length = 0 := by omega
  rw [h5]
  have h0 : 0 < y.toNat := by
    rcases Nat.eq_zero_or_pos y.toNat with e0 | e0
    · rw [e0, Lib.decDigits, dif_pos (by omega)] at h4; simp at h4
    · exact e0
  obtain ⟨c, t, hc, h48⟩ := dec_head _ h0
  rw [hc]
  show some c ≠ some 48
  simpa using h48
/-- A date as it is printed reads back. -/
theorem rdY_back {y m d : Int} {r : List UInt8} (hm : 1 ≤ m) (hm2 : m ≤ 12) (hd : 1 ≤ d) (hd2 : d ≤ mdP y m) (hy : (if y < 0 then -y else y) ≤ 999999999) : rdY (dtP y m d ++ r) = some (y, m, d, r) := by
  obtain ⟨Y, hY⟩ : ∃ Y, Y = if y < 0 then -y else y := ⟨_, rfl⟩
  have hY0 : 0 ≤ Y := by rw [hY]; split <;> omega
  unfold dtP
  rw [← hY] at hy ⊢
  obtain ⟨q1, q2, q3⟩ := yr_text hY0 hy
  obtain ⟨p1, p2, p3⟩ := pd_num hY0 4
  obtain ⟨P, hP⟩ : ∃ P, P = pdP Y 4 := ⟨_, rfl⟩
  rw [← hP] at q1 q2 q3 p1 p2 p3 ⊢
  have e : (if y < 0 then [45] else []) ++ P ++ [45] ++ pdP m 2 ++ [45] ++ pdP d 2 ++ r = (if y < 0 then [45] else []) ++ (P ++ 45 :: (pdP m 2 ++ 45 :: (pdP d 2 ++ r))) := by simp
  rw [e]
  have hng : ngB ((if y < 0 then [45] else []) ++ (P ++ 45 :: (pdP m 2 ++ 45 :: (pdP d 2 ++ r)))) = decide (y < 0) ∧ ngR ((if y < 0 then [45] else []) ++ (P ++ 45 :: (pdP m 2 ++ 45 :: (pdP d 2 ++ r)))) = P ++ 45 :: (pdP m 2 ++ 45 :: (pdP d 2 ++ r)) := by
    unfold ngR Lib.trimPrefix ngB
    by_cases h : y < 0
    · rw [if_pos h, decide_eq_true h]
      exact ⟨pre_one 45 _, if_pos (pre_one 45 _)⟩
    · rw [if_neg h, decide_eq_false h, List.nil_append]
      cases hc : P with
      | nil => exact absurd hc p3
      | cons c t =>
        rw [hc] at p1
        have hf := pre_no (t ++ 45 :: (pdP m 2 ++ 45 :: (pdP d 2 ++ r))) (dg_43 p1).2.1
        exact ⟨hf, by rw [List.cons_append, hf, if_neg (by simp)]⟩
  have hyr : yrI (P ++ 45 :: (pdP m 2 ++ 45 :: (pdP d 2 ++ r))) = P.length := idx_app p1
  have hok : okY (P ++ 45 :: (pdP m 2 ++ 45 :: (pdP d 2 ++ r))) = true := by
    unfold okY
    rw [hyr, Int.toNat_natCast, List.take_left, p1, decide_eq_true (by omega), decide_eq_true (by omega)]
    cases hc : P with
    | nil => exact absurd hc p3
    | cons c t =>
      rw [hc] at q3
      by_cases h4 : 4 < (c :: t).length
      · have := q3 h4
        simp only [List.head?_cons, ne_eq, Option.some.injEq] at this
        simp [this]
      · rw [decide_eq_false (by omega)]; rfl
  have hz : yrZ ((if y < 0 then [45] else []) ++ (P ++ 45 :: (pdP m 2 ++ 45 :: (pdP d 2 ++ r)))) = y := by
    unfold yrZ
    rw [hng.1, hng.2, hyr, Int.toNat_natCast, List.take_left, p2]
    by_cases h : y < 0
    · rw [decide_eq_true h, if_pos rfl, hY, if_pos h]; omega
    · rw [decide_eq_false h, if_neg (by simp), hY, if_neg h]
  unfold rdY
  rw [hz, hng.2, hok, if_pos rfl, hyr, Int.toNat_natCast]
  have hdr : (P ++ 45 :: (pdP m 2 ++ 45 :: (pdP d 2 ++ r))).drop (P.length + 1) = pdP m 2 ++ 45 :: (pdP d 2 ++ r) := by
    rw [List.drop_append]
    simp
  have hmd := mdP_bd y m
  rw [hdr, two_back (by omega) (by omega) _ _ (pre_one 45 _)]
  dsimp only [List.length_singleton]
  rw [if_neg (by omega), List.drop_succ_cons, List.drop_zero, two_back (by omega) (by omega) _ _ (pre_nil _)]
  dsimp only [List.length_nil]
  rw [if_neg (by omega), List.drop_zero]
/-- Each day has a date. -/
theorem yr_ex (n : Int) : ∀ (k : Nat) (y : Int), ydP y ≤ n → n < ydP y + 365 * k → ∃ y', ydP y' ≤ n ∧ n < ydP (y' + 1)
  | 0, y, h1, h2 => by simp at h2; omega
  | k + 1, y, h1, h2 => by
    by_cases h : n < ydP (y + 1)
    · exact ⟨y, h1, h⟩
    · have e := ydP_succ y
      have b := lpN_bd y
      exact yr_ex n k (y + 1) (by omega) (by omega)
theorem mo_ex (y l : Int) (h0 : 0 ≤ l) : ∀ k : Nat, l < cmP y k → ∃ j : Nat, j < k ∧ cmP y j ≤ l ∧ l < cmP y (j + 1)
  | 0, h => by simp [cmP] at h; omega
  | k + 1, h => by
    by_cases hk : l < cmP y k
    · obtain ⟨j, a, b, c⟩ := mo_ex y l h0 k hk
      exact ⟨j, by omega, b, c⟩
    · exact ⟨k, by omega, by omega, h⟩
theorem date_ex (n : Int) : ∃ y m d, IsDate n y m d := by
  obtain ⟨y0, hy0⟩ : ∃ y0, ydP y0 ≤ n := by
    refine ⟨-(n.natAbs : Int) - 1, ?_⟩
    have := ydP_le (a := -(n.natAbs : Int) - 1) (b := 0) (by omega)
    have e : ydP 0 = 0 := rfl
    omega
  obtain ⟨y, h1, h2⟩ := yr_ex n ((n - ydP y0).toNat + 1) y0 hy0 (by omega)
  have e := ydP_succ y
  obtain ⟨j, a, b, c⟩ := mo_ex y (n - ydP y) (by omega) 12 (by rw [cmP_12]; omega)
  have c' : n - ydP y < cmP y j + mdP y ((j : Int) + 1) := c
  refine ⟨y, (j : Int) + 1, n - ydP y - cmP y j + 1, ⟨by omega, by omega, by omega, by omega, ?_⟩⟩
  unfold dyP
  rw [show ((j : Int) + 1 - 1).toNat = j by omega]
  omega
end Go.Tk
