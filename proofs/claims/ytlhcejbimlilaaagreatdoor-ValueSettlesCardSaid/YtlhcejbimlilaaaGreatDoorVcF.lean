/- VcE VcF, laid as one. -/
import Derived.Test.YtlhcejbimlilaaaGreatDoorVbO
import Derived.Test.YtlhcejbimlilaaaGreatDoorVcC
import Derived.Test.YtlhcejbimlilaaaGreatDoorVcD
import Derived.Test.YtlhcejbimlilaaaGreatDoorVbK
import Derived.Laws.Concat
set_option linter.unusedVariables false
set_option linter.unusedSimpArgs false
/- Each value has one text. Plain. -/
namespace Go.Tk
open Go Go.RowKit
theorem date_is (n : Int) : IsDate n (dateF n).1 (dateF n).2.1 (dateF n).2.2 := by
  obtain ⟨y, m, d, h⟩ := date_ex n
  rw [dateF_eq h]; exact h
theorem dt_back {n : Int} {tail a : List UInt8} (h : dtOw n tail = some a) : rdD a = some (n, tail) := by
  have hd := date_is n
  unfold dtOw at h
  by_cases hy : (if (dateF n).1 < 0 then -(dateF n).1 else (dateF n).1) ≤ 999999999
  · rw [if_pos hy] at h
    obtain rfl := Option.some.inj h
    unfold rdD
    rw [rdY_back hd.m1 hd.m2 hd.d1 hd.d2 hy]
    show some (dyP _ _ _, tail) = _
    rw [hd.day]
  · rw [if_neg hy] at h
    cases h
theorem bf_self (a : Mt) : bfM a a = 0 := by unfold bfM; rw [if_neg (by omega), if_neg (by omega)]; exact (cmB_zero _ _).2 rfl
theorem bf_zero {a b : Mt} (h : bfM a b = 0) : a.sec = b.sec ∧ a.part = b.part := by
  unfold bfM at h
  split at h
  · cases h
  split at h
  · cases h
  · exact ⟨by omega, (cmB_zero _ _).1 h⟩
theorem mx_no (t u : Mt) : mxM t u ≠ (0, true) := by
  unfold mxM
  split
  · simp
  · rename_i h
    intro e
    exact h (.inl (Prod.mk.inj e).1)
theorem ag_mzero {t u : Mt} (h : agM t u = (0, true)) : t.zoned = u.zoned ∧ (utM t).sec = (utM u).sec ∧ t.part = u.part := by
  unfold agM at h
  split at h
  · rename_i hz
    obtain ⟨a, b⟩ := bf_zero (Prod.mk.inj h).1
    exact ⟨hz, a, b⟩
  split at h
  · exfalso
    refine mx_no u t ?_
    obtain ⟨a, b⟩ := Prod.mk.inj h
    exact Prod.ext (by show (mxM u t).1 = 0; omega) b
  · exact absurd h (mx_no t u)
theorem ag_msame {t u : Mt} (h1 : t.zoned = u.zoned) (h2 : (utM t).sec = (utM u).sec) (h3 : t.part = u.part) : agM t u = (0, true) := by
  unfold agM
  rw [if_pos h1]
  have : bfM (utM t) (utM u) = 0 := by
    unfold bfM
    rw [if_neg (by omega), if_neg (by omega)]
    exact (cmB_zero _ _).2 h3
  rw [this]
theorem rdT_part {s : List UInt8} {c : Int} {p e : List UInt8} (h : rdT s = some (c, p, e)) : dgB p = true ∧ tr0 p = p := by
  unfold rdT at h
  split at h
  · cases h
  split at h
  · cases h
  rename_i hf
  split at h
  · cases h
  obtain ⟨_, h2⟩ := Prod.mk.inj (Option.some.inj h)
  obtain ⟨rfl, _⟩ := Prod.mk.inj h2
  exact rdF_part hf
theorem rdDT_in {s : List UInt8} {m : Mt} (h : rdDT s = some m) : ∃ sec p z, inP sec p z = some m ∧ dgB p = true ∧ tr0 p = p := by
  unfold rdDT at h
  split at h
  · cases h
  split at h
  · split at h
    · cases h
    · rename_i ht; exact ⟨_, _, _, h, (rdT_part ht).1, (rdT_part ht).2⟩
  · cases h
theorem ut_zone {s : Int} {p z : List UInt8} {m : Mt} (h : inP s p z = some m) : rdZ (utM m).sp = some (m.zoned, 0) ∧ (m.zoned = false → m.zone = 0 ∧ m.sp = []) := by
  obtain ⟨_, _, _, hz⟩ := in_back h
  unfold utM
  dsimp only
  cases hm : m.zoned with
  | true => exact ⟨rfl, fun h => by cases h⟩
  | false =>
    rw [hm] at hz
    obtain ⟨e1, e2⟩ := rdZ_un hz
    exact ⟨by rw [if_neg (by simp), e1]; rfl, fun _ => ⟨e2, e1⟩⟩
theorem dtm_back {s : List UInt8} {m : Mt} {a : List UInt8} (h : rdDT s = some m) (ha : dtOw ((utM m).sec / 86400) ([84] ++ ckP (utM m).sec (utM m).part ++ (utM m).sp) = some a) : rdDT a = some (utM m) := by
  obtain ⟨sec, p, z, hin, hp, ht⟩ := rdDT_in h
  obtain ⟨_, _, hpp, _⟩ := in_back hin
  obtain ⟨hz, hun⟩ := ut_zone hin
  have hpart : (utM m).part = p := hpp
  unfold rdDT
  rw [dt_back ha]
  dsimp only
  have e : [84] ++ ckP (utM m).sec (utM m).part ++ (utM m).sp = 84 :: (ckP (utM m).sec (utM m).part ++ (utM m).sp) := by simp
  rw [e, if_pos (pre_one 84 _), List.drop_succ_cons, List.drop_zero, hpart, rdT_back hp ht hz]
  dsimp only
  unfold inP
  rw [hz]
  have es : (utM m).sec / 86400 * 86400 + (utM m).sec % 86400 = (utM m).sec := by omega
  rw [es]
  show some _ = some _
  congr 1
  unfold utM
  dsimp only
  cases hm : m.zoned with
  | true => rw [if_pos ⟨rfl, rfl⟩, if_pos rfl, hpp]
  | false => rw [if_neg (by simp), if_neg (by simp), hpp]
theorem ut_ut (m : Mt) : utM (utM m) = utM m := by
  unfold utM
  dsimp only
  cases m.zoned <;> simp
theorem dat_back {s : List UInt8} {m : Mt} {a : List UInt8} (h : rdDay s = some m) (ha : dtOw (m.sec / 86400) m.sp = some a) : rdDay a = some m := by
  unfold rdDay at h ⊢
  split at h
  · cases h
  · rename_i n z _
    obtain ⟨h1, h2, h3, h4⟩ := in_back h
    rw [dt_back ha]
    dsimp only
    rw [h2, show n * 86400 / 86400 = n from by omega]
    exact h1
theorem tim_back {s : List UInt8} {m : Mt} (h : rdClk s = some m) : rdClk (ckP m.sec m.part ++ m.sp) = some m := by
  unfold rdClk at h ⊢
  split at h
  · cases h
  · rename_i c p z hT
    obtain ⟨h1, h2, h3, h4⟩ := in_back h
    obtain ⟨hp, ht⟩ := rdT_part hT
    rw [h3, rdT_back hp ht h4]
    dsimp only
    rw [h2, show c % 86400 % 86400 % 86400 = c % 86400 from by omega]
    exact h1
end Go.Tk
namespace Go.Proofs.YtlhcejbimlilaaaGreatDoor
open Go.RowKit Go.Tk
theorem nu_of {s : List UInt8} {n : Nm} (h : dblP s = some n) : nuN s = n := by unfold nuN; rw [h]; rfl
theorem wit_eq {s t lo hi : List UInt8} (h : intP s = intP t) : witP s lo hi = witP t lo hi := by unfold witP; rw [h]
theorem nan_text {l : List UInt8} {n : Nm} (h : dblP l = some n) (hn : n.nan = true) : l = [78, 97, 78] := by
  rcases nf_dbl h with ⟨_, e⟩ | rfl | rfl | h
  · exact e
  · cases hn
  · cases hn
  · rw [h.nan] at hn; cases hn
theorem dbl_of_int {l : List UInt8} {n : Nm} (h : intP l = some n) : dblP l = some n := by
  refine dec_dbl ?_
  unfold intP at h
  split at h
  · rename_i hc
    simp only [Bool.and_eq_true] at hc
    have hct : ctA (sgnR l) = sgnR l ∧ ctB (sgnR l) = [] := by
      have hp : ∀ c ∈ sgnR l, (c != 46) = true := fun c hm => by
        have := (dg_43 (c := c) (t := []) (dgB_sub (fun d hd => by simp at hd; rw [hd]; exact hm) hc.2)).2.2.1
        simpa using this
      unfold ctA ctB
      have h1 := List.takeWhile_append_of_pos (l₂ := []) hp
      have h2 := List.dropWhile_append_of_pos (l₂ := []) hp
      rw [List.append_nil] at h1 h2
      rw [h1, h2]
      exact ⟨by simp, rfl⟩
    unfold decP okP
    rw [hct.1, hct.2, if_pos (by simp only [Bool.and_eq_true, List.append_nil]; exact ⟨⟨hc.2, rfl⟩, hc.1⟩)]
    exact h
  · cases h
theorem num_cmp {s t : List UInt8} {n m : Nm} (hs : dblP s = some n) (ht : dblP t = some m) : cmpF 2 s t = agN n m := by
  show agN (nuN s) (nuN t) = _
  rw [nu_of hs, nu_of ht]
theorem num_self {s t : List UInt8} {n : Nm} (hs : dblP s = some n) (ht : dblP t = some n) : s = t ∨ cmpF 2 s t = (0, true) := by
  cases hn : n.nan with
  | true => exact .inl ((nan_text hs hn).trans (nan_text ht hn).symm)
  | false => exact .inr (by rw [num_cmp hs ht]; exact ag_self hn)
/-- A text's own text is of its datatype, is its own, and says the same. -/
theorem own_back {k : Kd} {s a : List UInt8} (hk : isK k s = true) (ha : ownE k s = some a) : isK k a = true ∧ ownE k a = some a ∧ (s = a ∨ cmpF (famK k) s a = (0, true)) := by
  cases k with
  | str => obtain rfl := Option.some.inj (show some s = some a from ha); exact ⟨rfl, rfl, .inl rfl⟩
  | boo =>
    obtain rfl := Option.some.inj (show some (truP s) = some a from ha)
    refine ⟨boo_tru s, by show some (truP (truP s)) = _; rw [truP_idem], .inr ?_⟩
    show (cmB (truP s) (truP (truP s)), true) = _
    rw [truP_idem, (cmB_zero _ _).2 rfl]
  | dec =>
    obtain ⟨n, hn⟩ := Option.isSome_iff_exists.1 (show (decP s).isSome = true from hk)
    have ha' : (decP s).map plN = some a := ha
    rw [hn] at ha'
    obtain rfl := Option.some.inj (show some (plN n) = some a from ha')
    have hb := dec_back (nf_dec hn)
    refine ⟨by show (decP _).isSome = true; rw [hb]; rfl, by show (decP _).map plN = _; rw [hb]; rfl, num_self (dec_dbl hn) (dec_dbl hb)⟩
  | dbl =>
    obtain ⟨n, hn⟩ := Option.isSome_iff_exists.1 (show (dblP s).isSome = true from hk)
    have ha' : (dblP s).bind scN = some a := ha
    rw [hn] at ha'
    have ha2 : scN n = some a := ha'
    have hb := dbl_back hn ha2
    refine ⟨by show (dblP _).isSome = true; rw [hb]; rfl, by show (dblP _).bind scN = _; rw [hb]; exact ha2, num_self hn hb⟩
  | dtm =>
    obtain ⟨m, hm⟩ := Option.isSome_iff_exists.1 (show (rdDT s).isSome = true from hk)
    have ha' : (rdDT s).bind (fun m => dtOw ((utM m).sec / 86400) ([84] ++ ckP (utM m).sec (utM m).part ++ (utM m).sp)) = some a := ha
    rw [hm] at ha'
    have ha2 : dtOw ((utM m).sec / 86400) ([84] ++ ckP (utM m).sec (utM m).part ++ (utM m).sp) = some a := ha'
    have hb := dtm_back hm ha2
    refine ⟨by show (rdDT _).isSome = true; rw [hb]; rfl, ?_, .inr ?_⟩
    · show (rdDT a).bind (fun m => dtOw ((utM m).sec / 86400) ([84] ++ ckP (utM m).sec (utM m).part ++ (utM m).sp)) = _
      rw [hb]
      show dtOw ((utM (utM m)).sec / 86400) ([84] ++ ckP (utM (utM m)).sec (utM (utM m)).part ++ (utM (utM m)).sp) = _
      rw [ut_ut]; exact ha2
    · show agM (mtG (rdDT s)) (mtG (rdDT a)) = _
      rw [hm, hb]
      exact ag_msame (t := m) (u := utM m) rfl (by rw [ut_ut]) rfl
  | dat =>
    obtain ⟨m, hm⟩ := Option.isSome_iff_exists.1 (show (rdDay s).isSome = true from hk)
    have ha' : (rdDay s).bind (fun m => dtOw (m.sec / 86400) m.sp) = some a := ha
    rw [hm] at ha'
    have ha2 : dtOw (m.sec / 86400) m.sp = some a := ha'
    have hb := dat_back hm ha2
    refine ⟨by show (rdDay _).isSome = true; rw [hb]; rfl, ?_, .inr ?_⟩
    · show (rdDay a).bind (fun m => dtOw (m.sec / 86400) m.sp) = _
      rw [hb]; exact ha2
    · show agM (mtG (rdDay s)) (mtG (rdDay a)) = _
      rw [hm, hb]
      exact ag_msame (t := m) (u := m) rfl rfl rfl
  | tim =>
    obtain ⟨m, hm⟩ := Option.isSome_iff_exists.1 (show (rdClk s).isSome = true from hk)
    have ha' : (rdClk s).map (fun m => ckP m.sec m.part ++ m.sp) = some a := ha
    rw [hm] at ha'
    obtain rfl := Option.some.inj (show some (ckP m.sec m.part ++ m.sp) = some a from ha')
    have hb := tim_back hm
    refine ⟨by show (rdClk _).isSome = true; rw [hb]; rfl, ?_, .inr ?_⟩
    · show (rdClk _).map (fun m => ckP m.sec m.part ++ m.sp) = _
      rw [hb]; rfl
    · show agM (mtG (rdClk s)) (mtG (rdClk (ckP m.sec m.part ++ m.sp))) = _
      rw [hm, hb]
      exact ag_msame (t := m) (u := m) rfl rfl rfl
  | hex =>
    obtain rfl := Option.some.inj (show some (gtP s) = some a from ha)
    have hk' : (hexP (gtP s)).isSome = true := hk
    refine ⟨by show (hexP (gtP (gtP s))).isSome = true; rw [gtP_idem]; exact hk', by show some (gtP (gtP s)) = _; rw [gtP_idem], .inr ?_⟩
    show (cmB ((hexP (gtP s)).getD []) ((hexP (gtP (gtP s))).getD []), true) = _
    rw [gtP_idem, (cmB_zero _ _).2 rfl]
  | b64 => obtain rfl := Option.some.inj (show some s = some a from ha); exact ⟨hk, rfl, .inl rfl⟩
  | int lo hi =>
    obtain ⟨n, hn⟩ := witP_int (show witP s lo hi = true from hk)
    have ha' : (intP s).map whN = some a := ha
    rw [hn] at ha'
    obtain rfl := Option.some.inj (show some (whN n) = some a from ha')
    obtain ⟨n1, n2⟩ := nf_int hn
    have hb := int_back n1 n2
    refine ⟨by show witP _ lo hi = true; rw [wit_eq (hb.trans hn.symm)]; exact hk, by show (intP _).map whN = _; rw [hb]; rfl, num_self (dbl_of_int hn) (dbl_of_int hb)⟩
theorem num_eq {s t a b : List UInt8} {n m : Nm} (hs : dblP s = some n) (ht : dblP t = some m) (h1 : n = m → a = b) (h2 : a = b → n = m) : (s = t ∨ cmpF 2 s t = (0, true)) ↔ a = b := by
  constructor
  · rintro (rfl | h)
    · exact h1 (Option.some.inj (hs.symm.trans ht))
    · rw [num_cmp hs ht] at h
      exact h1 (ag_zero hs ht h)
  · intro e
    have e2 := h2 e
    subst e2
    exact num_self hs ht
/-- Two texts of one datatype say the same just if their own texts are the same. -/
theorem own_eq {k : Kd} {s t a b : List UInt8} (hs : isK k s = true) (ht : isK k t = true) (ha : ownE k s = some a) (hb : ownE k t = some b) (k1 : k ≠ .dat) (k2 : k ≠ .tim) : (s = t ∨ cmpF (famK k) s t = (0, true)) ↔ a = b := by
  have deq : s = t → a = b := fun e => by subst e; exact Option.some.inj (ha.symm.trans hb)
  cases k with
  | str =>
    obtain rfl := Option.some.inj (show some s = some a from ha)
    obtain rfl := Option.some.inj (show some t = some b from hb)
    show (s = t ∨ (cmB s t, true) = (0, true)) ↔ s = t
    rw [Prod.mk.injEq, cmB_zero]; simp
  | boo =>
    obtain rfl := Option.some.inj (show some (truP s) = some a from ha)
    obtain rfl := Option.some.inj (show some (truP t) = some b from hb)
    show (s = t ∨ (cmB (truP s) (truP t), true) = (0, true)) ↔ _
    rw [Prod.mk.injEq, cmB_zero]
    exact ⟨fun h => h.elim deq (·.1), fun h => .inr ⟨h, rfl⟩⟩
  | dec =>
    obtain ⟨n, hn⟩ := Option.isSome_iff_exists.1 (show (decP s).isSome = true from hs)
    obtain ⟨m, hm⟩ := Option.isSome_iff_exists.1 (show (decP t).isSome = true from ht)
    have ha' : (decP s).map plN = some a := ha
    have hb' : (decP t).map plN = some b := hb
    rw [hn] at ha'
    rw [hm] at hb'
    obtain rfl := Option.some.inj (show some (plN n) = some a from ha')
    obtain rfl := Option.some.inj (show some (plN m) = some b from hb')
    have b1 := dec_back (nf_dec hn)
    have b2 := dec_back (nf_dec hm)
    exact num_eq (dec_dbl hn) (dec_dbl hm) (fun e => by rw [e]) (fun e => by rw [e] at b1; exact Option.some.inj (b1.symm.trans b2))
  | dbl =>
    obtain ⟨n, hn⟩ := Option.isSome_iff_exists.1 (show (dblP s).isSome = true from hs)
    obtain ⟨m, hm⟩ := Option.isSome_iff_exists.1 (show (dblP t).isSome = true from ht)
    have ha' : (dblP s).bind scN = some a := ha
    have hb' : (dblP t).bind scN = some b := hb
    rw [hn] at ha'
    rw [hm] at hb'
    have b1 := dbl_back hn (show scN n = some a from ha')
    have b2 := dbl_back hm (show scN m = some b from hb')
    exact num_eq hn hm (fun e => by subst e; exact Option.some.inj (ha'.symm.trans hb')) (fun e => by rw [e] at b1; exact Option.some.inj (b1.symm.trans b2))
  | dtm =>
    obtain ⟨m, hm⟩ := Option.isSome_iff_exists.1 (show (rdDT s).isSome = true from hs)
    obtain ⟨n, hn⟩ := Option.isSome_iff_exists.1 (show (rdDT t).isSome = true from ht)
    have ha' : (rdDT s).bind (fun m => dtOw ((utM m).sec / 86400) ([84] ++ ckP (utM m).sec (utM m).part ++ (utM m).sp)) = some a := ha
    have hb' : (rdDT t).bind (fun m => dtOw ((utM m).sec / 86400) ([84] ++ ckP (utM m).sec (utM m).part ++ (utM m).sp)) = some b := hb
    rw [hm] at ha'
    rw [hn] at hb'
    have ha2 : dtOw ((utM m).sec / 86400) ([84] ++ ckP (utM m).sec (utM m).part ++ (utM m).sp) = some a := ha'
    have hb2 : dtOw ((utM n).sec / 86400) ([84] ++ ckP (utM n).sec (utM n).part ++ (utM n).sp) = some b := hb'
    have c1 := dtm_back hm ha2
    have c2 := dtm_back hn hb2
    show (s = t ∨ agM (mtG (rdDT s)) (mtG (rdDT t)) = (0, true)) ↔ _
    rw [hm, hn]
    constructor
    · rintro (h | h)
      · exact deq h
      · obtain ⟨q1, q2, q3⟩ := ag_mzero (t := m) (u := n) h
        have e : utM m = utM n := by
          obtain ⟨_, _, _, i1, _, _⟩ := rdDT_in hm
          obtain ⟨_, _, _, i2, _, _⟩ := rdDT_in hn
          have u1 := (ut_zone i1).2
          have u2 := (ut_zone i2).2
          have e1 : (utM m).sp = (utM n).sp := by
            unfold utM
            dsimp only
            rw [← q1]
            cases hz : m.zoned with
            | true => rfl
            | false => rw [if_neg (by simp), if_neg (by simp), (u1 hz).2, (u2 (q1 ▸ hz)).2]
          have e2 : utM m = ⟨(utM m).sec, m.part, m.zoned, 0, (utM m).sp⟩ := rfl
          have e3 : utM n = ⟨(utM n).sec, n.part, n.zoned, 0, (utM n).sp⟩ := rfl
          rw [e2, e3, q2, q3, q1, e1]
        rw [e] at ha2
        exact Option.some.inj (ha2.symm.trans hb2)
    · intro e
      rw [e] at c1
      have e2 : utM m = utM n := Option.some.inj (c1.symm.trans c2)
      have z1 : (utM m).zoned = (utM n).zoned := congrArg Mt.zoned e2
      have z3 : (utM m).part = (utM n).part := congrArg Mt.part e2
      exact .inr (ag_msame (t := m) (u := n) z1 (congrArg Mt.sec e2) z3)
  | dat => exact absurd rfl k1
  | tim => exact absurd rfl k2
  | hex =>
    obtain rfl := Option.some.inj (show some (gtP s) = some a from ha)
    obtain rfl := Option.some.inj (show some (gtP t) = some b from hb)
    obtain ⟨x, hx⟩ := Option.isSome_iff_exists.1 (show (hexP (gtP s)).isSome = true from hs)
    obtain ⟨y, hy⟩ := Option.isSome_iff_exists.1 (show (hexP (gtP t)).isSome = true from ht)
    show (s = t ∨ (cmB ((hexP (gtP s)).getD []) ((hexP (gtP t)).getD []), true) = (0, true)) ↔ _
    rw [hx, hy, Prod.mk.injEq, cmB_zero]
    refine ⟨fun h => h.elim deq fun h => ?_, fun h => .inr ⟨?_, rfl⟩⟩
    · have e : x = y := h.1
      subst e
      exact hex_inj _ _ _ hx hy
    · show x = y
      rw [h, hy] at hx
      exact (Option.some.inj hx).symm
  | b64 =>
    obtain rfl := Option.some.inj (show some s = some a from ha)
    obtain rfl := Option.some.inj (show some t = some b from hb)
    show (s = t ∨ (cmB (b6R s).1 (b6R t).1, true) = (0, true)) ↔ _
    rw [Prod.mk.injEq, cmB_zero]
    exact ⟨fun h => h.elim id fun h => b6_inj hs ht h.1, fun h => .inl h⟩
  | int lo hi =>
    obtain ⟨n, hn⟩ := witP_int (show witP s lo hi = true from hs)
    obtain ⟨m, hm⟩ := witP_int (show witP t lo hi = true from ht)
    have ha' : (intP s).map whN = some a := ha
    have hb' : (intP t).map whN = some b := hb
    rw [hn] at ha'
    rw [hm] at hb'
    obtain rfl := Option.some.inj (show some (whN n) = some a from ha')
    obtain rfl := Option.some.inj (show some (whN m) = some b from hb')
    have b1 := int_back (nf_int hn).1 (nf_int hn).2
    have b2 := int_back (nf_int hm).1 (nf_int hm).2
    exact num_eq (dbl_of_int hn) (dbl_of_int hm) (fun e => by rw [e]) (fun e => by rw [e] at b1; exact Option.some.inj (b1.symm.trans b2))
end Go.Proofs.YtlhcejbimlilaaaGreatDoor
/- What Canonical says of a text, of its own text, and of another. Plain; zoned. -/
namespace Go.Proofs.YtlhcejbimlilaaaGreatDoor
open Go.RowKit Go.Tk
def trmT (ty t : ByteArray) : Tm := ⟨3, t, ty, ⟨#[]⟩⟩
def znB (t : List UInt8) : Bool := t == xsd ++ [100, 97, 116, 101] || t == xsd ++ [116, 105, 109, 101]
theorem pre_xsd {t : List UInt8} (h : Lib.hasPrefix t xsd = true) : t = xsd ++ t.drop 33 := by
  unfold Lib.hasPrefix at h
  obtain ⟨u, hu⟩ := List.isPrefixOf_iff_prefix.1 h
  have hl : xsd.length = 33 := rfl
  rw [← hu, ← hl, List.drop_left]
theorem kdL_zn {l : List UInt8} {k : Kd} (h : kdL l = some k) (hk : k = .dat ∨ k = .tim) : l = [100, 97, 116, 101] ∨ l = [116, 105, 109, 101] := by
  unfold kdL at h
  split at h
  · obtain rfl := Option.some.inj h; simp at hk
  split at h
  · obtain rfl := Option.some.inj h; simp at hk
  split at h
  · obtain rfl := Option.some.inj h; simp at hk
  split at h
  · obtain rfl := Option.some.inj h; simp at hk
  split at h
  · obtain rfl := Option.some.inj h; simp at hk
  split at h
  · obtain rfl := Option.some.inj h; simp at hk
  split at h
  · exact .inl (by assumption)
  split at h
  · exact .inr (by assumption)
  split at h
  · obtain rfl := Option.some.inj h; simp at hk
  split at h
  · obtain rfl := Option.some.inj h; simp at hk
  · obtain ⟨x, _, rfl⟩ := Option.map_eq_some_iff.1 h; simp at hk
theorem zn_kd {t : List UInt8} {k : Kd} (h : kdOf t = some k) (hz : znB t = false) : k ≠ .dat ∧ k ≠ .tim := by
  unfold kdOf at h
  split at h
  · rename_i hp
    have e := pre_xsd hp
    have hn : ¬ (k = .dat ∨ k = .tim) := fun hk => by
      unfold znB at hz
      rcases kdL_zn h hk with e2 | e2
      · rw [e2] at e; rw [e] at hz; simp at hz
      · rw [e2] at e; rw [e] at hz; simp at hz
    exact ⟨fun e => hn (.inl e), fun e => hn (.inr e)⟩
  · cases h
theorem chk_of {T a : List UInt8} {k : Kd} (hk : kdOf T = some k) (hl : a.length ≤ 65536) (hi : isK k a = true) : chkE T a = 0 := by
  unfold chkE
  rw [if_neg (by omega), hk]
  dsimp only
  rw [if_pos hi]
theorem can_of {T a : List UInt8} {k : Kd} (hk : kdOf T = some k) (hl : a.length ≤ 65536) (hi : isK k a = true) (ho : ownE k a = some a) : canE T a = (a, 0) := by
  unfold canE
  rw [chk_of hk hl hi, if_neg (by simp), hk]
  dsimp only
  rw [ho]
  unfold canO
  dsimp only
  rw [if_neg (by omega)]
theorem can_err {T s : List UInt8} (h : (canE T s).2 ≠ 0) : (canE T s).1 = [] := by
  unfold canE at h ⊢
  split
  · rfl
  · rename_i hc
    rw [if_neg hc] at h
    cases hk : kdOf T with
    | none => rw [hk] at h; exact absurd rfl h
    | some k =>
      rw [hk] at h
      dsimp only at h ⊢
      cases ho : ownE k s with
      | none => rfl
      | some x =>
        rw [ho] at h
        unfold canO at h ⊢
        dsimp only at h ⊢
        split
        · rfl
        · rename_i hl; rw [if_neg hl] at h; exact absurd rfl h
theorem can_none {T s : List UInt8} (hk : kdOf T = none) (h : (canE T s).2 = 0) : canE T s = (s, 0) := by
  unfold canE at h ⊢
  split
  · rename_i hc; rw [if_pos hc] at h; exact absurd h hc
  · rw [hk]
theorem can_some {T s : List UInt8} {k : Kd} (hk : kdOf T = some k) (h : (canE T s).2 = 0) : isK k s = true ∧ chkE T s = 0 ∧ ownE k s = some (canE T s).1 ∧ (canE T s).1.length ≤ 65536 := by
  by_cases hc : chkE T s ≠ 0
  · unfold canE at h; rw [if_pos hc] at h; exact absurd h hc
  · have hc0 : chkE T s = 0 := by omega
    have hi := (chkE_zero hc0).2 k hk
    have e : canE T s = canO (ownE k s) := by unfold canE; rw [if_neg hc, hk]
    rw [e] at h ⊢
    cases ho : ownE k s with
    | none => rw [ho] at h; cases h
    | some x =>
      rw [ho] at h
      unfold canO at h ⊢
      dsimp only at h ⊢
      split
      · rename_i hl; rw [if_pos hl] at h; cases h
      · exact ⟨hi, hc0, rfl, by show x.length ≤ _; omega⟩
theorem tm_same (T s t : ByteArray) : tmEq (trmT T s) (trmT T t) = (s.data.toList == t.data.toList) := by
  unfold tmEq trmT
  simp
theorem eq_none {T s t : ByteArray} (hk : kdOf T.data.toList = none) : eqE (trmT T s) (trmT T t) = (s.data.toList == t.data.toList) := by
  have e : (trmT T s).ok = false := vdOk_none hk
  have e2 : cmpE (trmT T s) (trmT T t) = (0, false) := by unfold cmpE; rw [if_neg (by simp [e])]
  unfold eqE
  rw [e2, tm_same]
  simp
theorem eq_some {T s t : ByteArray} {k : Kd} (hk : kdOf T.data.toList = some k) (h1 : chkE T.data.toList s.data.toList = 0) (h2 : chkE T.data.toList t.data.toList = 0) :
    eqE (trmT T s) (trmT T t) = true ↔ (s.data.toList = t.data.toList ∨ cmpF (famK k) s.data.toList t.data.toList = (0, true)) := by
  have o1 : (trmT T s).ok = true := by show vdOk 3 T.data.toList s.data.toList = true; unfold vdOk; rw [hk, h1]; rfl
  have o2 : (trmT T t).ok = true := by show vdOk 3 T.data.toList t.data.toList = true; unfold vdOk; rw [hk, h2]; rfl
  have e2 : cmpE (trmT T s) (trmT T t) = cmpF (famK k) s.data.toList t.data.toList := by
    unfold cmpE
    rw [if_pos ⟨o1, o2, rfl⟩]
    have : (trmT T s).fam = famK k := by show famT T.data.toList = _; unfold famT; rw [hk]
    rw [this]; rfl
  unfold eqE
  rw [e2, tm_same]
  simp only [Bool.or_eq_true, beq_iff_eq, Bool.and_eq_true, decide_eq_true_eq]
  constructor
  · rintro (h | ⟨h, h'⟩)
    · exact .inl h
    · exact .inr (Prod.ext h' h)
  · rintro (h | h)
    · exact .inl h
    · rw [h]; exact .inr ⟨rfl, rfl⟩
/-- Each value has one text. -/
theorem settle (T s t : ByteArray) : ((canE T.data.toList s.data.toList).2 ≠ 0 → (canE T.data.toList s.data.toList).1 = []) ∧
    ((canE T.data.toList s.data.toList).2 = 0 → canE T.data.toList (canE T.data.toList s.data.toList).1 = ((canE T.data.toList s.data.toList).1, 0) ∧ chkE T.data.toList (canE T.data.toList s.data.toList).1 = 0 ∧
      eqE (trmT T s) (trmT T ⟨(canE T.data.toList s.data.toList).1.toArray⟩) = true ∧
      ((canE T.data.toList t.data.toList).2 = 0 → znB T.data.toList = false → eqE (trmT T s) (trmT T t) = ((canE T.data.toList s.data.toList).1 == (canE T.data.toList t.data.toList).1))) := by
  refine ⟨can_err, fun h => ?_⟩
  cases hk : kdOf T.data.toList with
  | none =>
    have e := can_none hk h
    rw [e]
    have hc : chkE T.data.toList s.data.toList = 0 := by
      by_cases hc : chkE T.data.toList s.data.toList = 0
      · exact hc
      · unfold canE at h; rw [if_pos hc] at h; exact absurd h hc
    refine ⟨e, hc, by rw [eq_none hk]; exact beq_self_eq_true _, fun h2 _ => ?_⟩
    rw [can_none hk h2, eq_none hk]
  | some k =>
    obtain ⟨hi, hc, ho, hl⟩ := can_some hk h
    obtain ⟨b1, b2, b3⟩ := own_back hi ho
    have hca := chk_of hk hl b1
    refine ⟨can_of hk hl b1 b2, hca, (eq_some hk hc hca).2 b3, fun h2 hz => ?_⟩
    obtain ⟨hi2, hc2, ho2, hl2⟩ := can_some hk h2
    obtain ⟨z1, z2⟩ := zn_kd hk hz
    have hiff := (eq_some (s := s) (t := t) hk hc hc2).trans (own_eq hi hi2 ho ho2 z1 z2)
    rw [Bool.eq_iff_iff, hiff, beq_iff_eq]
set_option maxHeartbeats 1000000 in
theorem zoned_calls (T : ByteArray) (w : World) : Calls Tryz.prog 23 #[.string T] w fun e w' => e = .returned (.bool (znB T.data.toList)) ∧ w = w' := by
  have e : znB T.data.toList = ((T.data.toList == xsd ++ [100, 97, 116, 101]) || (T.data.toList == xsd ++ [116, 105, 109, 101])) := rfl
  rw [e, ← Lib.toList_data]
  cases h1 : (T.toList == xsd ++ [100, 97, 116, 101]) with
  | true =>
    have h1' : T = ⟨(xsd ++ [100, 97, 116, 101]).toArray⟩ := by apply ba_ext; rw [← Lib.toList_data]; exact beq_iff_eq.1 h1
    subst h1'
    clear h1 e
    go_enter Tryz.func23, Tryz.ntmps23
    go_wp2_with fail
    go_ret
    exact ⟨rfl, rfl⟩
  | false =>
    cases h2 : (T.toList == xsd ++ [116, 105, 109, 101]) with
    | true =>
      have h2' : T = ⟨(xsd ++ [116, 105, 109, 101]).toArray⟩ := by apply ba_ext; rw [← Lib.toList_data]; exact beq_iff_eq.1 h2
      subst h2'
      clear h1 h2 e
      go_enter Tryz.func23, Tryz.ntmps23
      go_wp2_with fail
      go_ret
      exact ⟨rfl, rfl⟩
    | false =>
      have h1' : (T.toList == [104, 116, 116, 112, 58, 47, 47, 119, 119, 119, 46, 119, 51, 46, 111, 114, 103, 47, 50, 48, 48, 49, 47, 88, 77, 76, 83, 99, 104, 101, 109, 97, 35, 100, 97, 116, 101]) = false := h1
      have h2' : (T.toList == [104, 116, 116, 112, 58, 47, 47, 119, 119, 119, 46, 119, 51, 46, 111, 114, 103, 47, 50, 48, 48, 49, 47, 88, 77, 76, 83, 99, 104, 101, 109, 97, 35, 116, 105, 109, 101]) = false := h2
      clear h1 h2 e
      go_enter Tryz.func23, Tryz.ntmps23
      go_wp2_with fail
      go_ret
      exact ⟨rfl, rfl⟩
end Go.Proofs.YtlhcejbimlilaaaGreatDoor
