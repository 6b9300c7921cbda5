/- VbP VbQ, laid as one. -/
import Derived.Test.YtlhcejbimlilaaaGreatDoorVaM
import Derived.Test.YtlhcejbimlilaaaGreatDoorVbK
import Derived.Test.YtlhcejbimlilaaaGreatDoorVbO
set_option linter.unusedVariables false
set_option linter.unusedSimpArgs false
/- An integer's text is a double's, the same number; a 0 behind. Plain. -/
namespace Go.Tk
open Go Go.RowKit
theorem dg_c {c : UInt8} {l : List UInt8} (h : dgB l = true) (hc : c ∈ l) : 48 ≤ c.toNat ∧ c.toNat ≤ 57 := by
  have := List.all_eq_true.1 h c hc
  simp only [Bool.and_eq_true, decide_eq_true_eq] at this
  have h1 := UInt8.le_iff_toNat_le.1 this.1
  have h2 := UInt8.le_iff_toNat_le.1 this.2
  exact ⟨h1, h2⟩
theorem ctA_dg {l : List UInt8} (h : dgB l = true) : ctA l = l ∧ ctB l = [] := by
  have hp : ∀ c ∈ l, (c != 46) = true := fun c hc => by
    have := dg_c h hc
    simp only [bne_iff_ne, ne_eq]
    rintro rfl
    simp at this
  unfold ctA ctB
  clear h
  induction l with
  | nil => exact ⟨rfl, rfl⟩
  | cons c t ih =>
    have h1 := hp c (by simp)
    have h2 := ih (fun x hx => hp x (by simp [hx]))
    rw [List.takeWhile_cons, List.dropWhile_cons, if_pos h1, if_pos h1]
    exact ⟨by rw [h2.1], h2.2⟩
theorem int_dec {l : List UInt8} {n : Nm} (h : intP l = some n) : decP l = some n := by
  unfold intP at h
  split at h
  · rename_i hc
    simp only [Bool.and_eq_true] at hc
    have hct := ctA_dg hc.2
    unfold decP okP
    rw [hct.1, hct.2, if_pos (by simp only [Bool.and_eq_true, List.append_nil]; exact ⟨⟨hc.2, rfl⟩, hc.1⟩)]
    exact h
  · cases h
theorem noE_dg {l : List UInt8} (h : dgB l = true) : l.any isE = false := by
  rw [List.any_eq_false]
  intro c hc
  have := dg_c h hc
  unfold isE
  intro he
  simp only [Bool.or_eq_true, beq_iff_eq] at he
  rcases he with rfl | rfl <;> simp at this
theorem int_noE {l : List UInt8} (h : dgB (sgnR l) = true) : l.any isE = false := by
  cases l with
  | nil => rfl
  | cons c t =>
    replace h : dgB (if c == 43 || c == 45 then t else c :: t) = true := h
    split at h
    · rename_i hc
      rw [List.any_cons, noE_dg h, Bool.or_false]
      simp only [Bool.or_eq_true, beq_iff_eq] at hc
      rcases hc with rfl | rfl <;> rfl
    · exact noE_dg h
/-- An integer is a double: the same number. -/
theorem int_dbl {l : List UInt8} {n : Nm} (h : intP l = some n) : dblP l = some n := by
  have hd : dgB (sgnR l) = true := by
    unfold intP at h
    split at h
    · rename_i hc
      simp only [Bool.and_eq_true] at hc
      exact hc.2
    · cases h
  unfold dblP
  rw [if_neg, if_neg, if_neg, if_pos (int_noE hd)]
  · exact int_dec h
  · rintro rfl; revert hd; decide
  · rintro (rfl | rfl) <;> (revert hd; decide)
  · rintro rfl; revert hd; decide
theorem tr0_app (l : List UInt8) : tr0 (l ++ [48]) = tr0 l := by
  unfold tr0
  rw [List.reverse_append]
  rfl
theorem tl0_app : ∀ l : List UInt8, tl0 (l ++ [48]) = if tl0 l = [] then [] else tl0 l ++ [48]
  | [] => rfl
  | c :: t => by
    have ih := tl0_app t
    unfold tl0 at ih ⊢
    rw [List.cons_append, List.dropWhile_cons, List.dropWhile_cons]
    by_cases h : (c == 48) = true
    · rw [if_pos h, if_pos h]; exact ih
    · rw [if_neg h, if_neg h, if_neg (by simp)]; rfl
theorem tl0_tr (l : List UInt8) (h : tl0 l = []) : tr0 (tl0 l) = [] := by rw [h]; rfl
/-- A 0 behind the digits of an integer: ten times the number. -/
theorem mkN_app (b : Bool) (r : List UInt8) : mkN b (r ++ [48]) [] 0 = if tr0 (tl0 r) = [] then nmZ else ⟨b, tr0 (tl0 r), (r.length : Int) - (r.length - (tl0 r).length : Int) + 1, 0, false⟩ := by
  unfold mkN
  rw [List.append_nil, tl0_app]
  by_cases h : tl0 r = []
  · rw [if_pos h, h]; rfl
  · rw [if_neg h, tr0_app]
    by_cases h2 : tr0 (tl0 r) = []
    · rw [if_pos h2, if_pos h2]
    · rw [if_neg h2, if_neg h2]
      simp only [List.length_append, List.length_singleton, Nm.mk.injEq, true_and, and_true]
      omega
def tenN (n : Nm) : Nm := if n.dg = [] then nmZ else ⟨n.below, n.dg, n.pw + 1, n.inf, n.nan⟩
theorem int_ten {l : List UInt8} {n : Nm} (h : intP l = some n) : intP (l ++ [48]) = some (tenN n) := by
  unfold intP at h ⊢
  split at h
  · rename_i hc
    simp only [Bool.and_eq_true, Bool.not_eq_true', List.isEmpty_eq_false_iff] at hc
    have hs : sgnR (l ++ [48]) = sgnR l ++ [48] ∧ sgnB (l ++ [48]) = sgnB l := by
      cases l with
      | nil => exact absurd rfl hc.1
      | cons c t =>
        refine ⟨?_, rfl⟩
        show (if c == 43 || c == 45 then t ++ [48] else c :: (t ++ [48])) = (if c == 43 || c == 45 then t else c :: t) ++ [48]
        split <;> rfl
    have hd : dgB (sgnR l ++ [48]) = true := by
      have := hc.2
      unfold dgB at this ⊢
      rw [List.all_append, this]; rfl
    rw [hs.1, hs.2, if_pos (by simp [hd]), mkN_app]
    obtain rfl := Option.some.inj h
    unfold tenN mkN
    rw [List.append_nil]
    by_cases h2 : tr0 (tl0 (sgnR l)) = []
    · rw [if_pos h2, if_pos h2]; rfl
    · rw [if_neg h2, if_neg h2]
      dsimp only
      rw [if_neg h2]
      simp
  · cases h
theorem cmZ_one (a b : Int) : cmZ (a + 1) (b + 1) = cmZ a b := by
  unfold cmZ
  by_cases h1 : a < b
  · rw [if_pos h1, if_pos (by omega)]
  · rw [if_neg h1, if_neg (by omega)]
    by_cases h2 : b < a
    · rw [if_pos h2, if_pos (by omega)]
    · rw [if_neg h2, if_neg (by omega)]
/-- Ten times both: the same order. -/
theorem ag_ten {n m : Nm} (hn : n.inf = 0) (hm : m.inf = 0) (an : n.nan = false) (am : m.nan = false) : agN (tenN n) (tenN m) = agN n m := by
  have hr : ∀ k : Nm, k.inf = 0 → rkN (tenN k) = rkN k := fun k hk => by
    unfold tenN rkN
    by_cases h : k.dg = []
    · rw [if_pos h, hk]; (try simp [nmZ, h])
    · rw [if_neg h]
  have hz : ∀ k : Nm, k.nan = false → (tenN k).nan = false := fun k hk => by
    unfold tenN
    split
    · rfl
    · exact hk
  unfold agN
  rw [hr n hn, hr m hm, hz n an, hz m am, an, am]
  by_cases hc : rkN n ≠ rkN m ∨ rkN n ≠ 1 ∧ rkN n ≠ -1
  · simp only [Bool.false_eq_true, or_self, if_false, if_pos hc]
  · simp only [Bool.false_eq_true, or_self, if_false, if_neg hc]
    have hd : ∀ k : Nm, k.inf = 0 → (rkN k = 1 ∨ rkN k = -1) → k.dg ≠ [] := fun k hk h e => by
      unfold rkN at h
      rw [hk, e] at h
      simp at h
    have d1 := hd n hn (by omega)
    have d2 := hd m hm (by omega)
    have e1 : tenN n = ⟨n.below, n.dg, n.pw + 1, n.inf, n.nan⟩ := by unfold tenN; rw [if_neg d1]
    have e2 : tenN m = ⟨m.below, m.dg, m.pw + 1, m.inf, m.nan⟩ := by unfold tenN; rw [if_neg d2]
    rw [e1, e2]
    dsimp only
    rw [cmZ_one]
/-- With a - ahead of both, where none has a sign: turned round. -/
theorem mk_below (b : Bool) (r : List UInt8) : mkN b r [] 0 = if tr0 (tl0 r) = [] then nmZ else ⟨b, tr0 (tl0 r), (r.length : Int) - (r.length - (tl0 r).length : Int), 0, false⟩ := by
  unfold mkN
  rw [List.append_nil]
  by_cases h : tr0 (tl0 r) = []
  · rw [if_pos h, if_pos h]
  · rw [if_neg h, if_neg h, Int.add_zero]
theorem ag_minus (r q : List UInt8) : agN (mkN true r [] 0) (mkN true q [] 0) = (-(agN (mkN false r [] 0) (mkN false q [] 0)).1, (agN (mkN false r [] 0) (mkN false q [] 0)).2) := by
  rw [mk_below, mk_below, mk_below, mk_below]
  by_cases h : tr0 (tl0 r) = [] <;> by_cases k : tr0 (tl0 q) = [] <;> simp [h, k, agN, rkN, nmZ, cmZ]
end Go.Tk
/- Integers' literals: when they have a value. Plain. -/
namespace Go.Proofs.YtlhcejbimlilaaaGreatDoor
open Go.RowKit Go.Tk
def bInt : ByteArray := ⟨nInt.toArray⟩
theorem int_kd : kdOf (xsd ++ nInt) = some (.int [] []) := by kernel_rfl
theorem int_chk (s : List UInt8) (h : s.length ≤ 65536) : chkE (xsd ++ nInt) s = if (intP s).isSome = true then 0 else 80 := by
  unfold chkE
  rw [if_neg (by omega), int_kd]
  dsimp only
  have e : isK (.int [] []) s = (intP s).isSome := by
    show witP s [] [] = _
    unfold witP
    cases intP s with
    | none => rfl
    | some n => simp
  rw [e]
theorem int_ok (t : ByteArray) (h : t.size ≤ 65536) : (litT bInt t).ok = (intP t.data.toList).isSome := by
  have e : (litT bInt t).ok = vdOk 3 (xsd ++ nInt) t.data.toList := rfl
  rw [e]
  unfold vdOk
  rw [int_kd, int_chk _ (by rw [← Lib.size_eq]; exact h)]
  cases (intP t.data.toList).isSome <;> rfl
theorem cmp_int {a b : ByteArray} {n m : Nm} (ha : a.size ≤ 65536) (hb : b.size ≤ 65536) (hn : intP a.data.toList = some n) (hm : intP b.data.toList = some m) :
    cmpE (litT bInt a) (litT bInt b) = agN n m := by
  unfold cmpE
  rw [if_pos ⟨by rw [int_ok a ha, hn]; rfl, by rw [int_ok b hb, hm]; rfl, rfl⟩]
  have e : cmpF (litT bInt a).fam (litT bInt a).tx.data.toList (litT bInt b).tx.data.toList = agN (nuN a.data.toList) (nuN b.data.toList) := rfl
  rw [e]
  unfold nuN
  rw [int_dbl hn, int_dbl hm]
  rfl
end Go.Proofs.YtlhcejbimlilaaaGreatDoor
