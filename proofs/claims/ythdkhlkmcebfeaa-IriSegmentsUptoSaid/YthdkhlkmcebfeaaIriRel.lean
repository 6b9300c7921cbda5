/- The short forms of a target, in plain words; what is split is joined again. -/
import Derived.Test.YthdkhlkmcebfeaaIriRes
import Derived.Test.YthdkhlkmcebfeaaIriDot
import Derived.Lib.Repeat
set_option linter.unusedVariables false
set_option linter.unusedSimpArgs false
namespace Go.Tk
open Go Go.RowKit
theorem schF_at : ∀ (l : List UInt8) (i : Nat), schF l i ≠ 0 → ∃ j, schF l i = i + j ∧ l[j]? = some 58
  | [], i, h => absurd rfl h
  | b :: t, i, h => by
    simp only [schF] at h ⊢
    split
    · rename_i hb
      exact ⟨0, rfl, by simp; exact UInt8.toNat.inj (by simpa using hb)⟩
    · rename_i hb
      rw [if_neg hb] at h
      split
      · rename_i hc
        rw [if_pos hc] at h
        obtain ⟨j, h1, h2⟩ := schF_at t (i + 1) h
        exact ⟨j + 1, by omega, by simpa using h2⟩
      · rename_i hc
        rw [if_neg hc] at h
        exact absurd rfl h
theorem sch_at {l : List UInt8} (h : sch l ≠ 0) : l[sch l]? = some 58 := by
  obtain ⟨j, h1, h2⟩ := schF_at l 0 h
  have : sch l = j := by unfold sch; omega
  rw [this]; exact h2
theorem cat_s1 (l : List UInt8) : (if l.take (sch l) = [] then [] else l.take (sch l) ++ [58]) ++ Prts.s1 l = l := by
  by_cases h : sch l = 0
  · unfold Prts.s1; rw [h]; simp
  · have h1 := sch_at h
    have h2 := sch_le l
    obtain ⟨hlt, h3⟩ := List.getElem?_eq_some_iff.1 h1
    have hne : l.take (sch l) ≠ [] := by intro e; have := congrArg List.length e; rw [List.length_take, List.length_nil] at this; omega
    unfold Prts.s1
    rw [if_neg hne, if_neg h, List.append_assoc]
    have e := List.drop_eq_getElem_cons hlt
    rw [h3] at e
    rw [List.singleton_append, ← e, List.take_append_drop]
theorem cat_s2 (l : List UInt8) : (if Prts.hasA l then 47 :: 47 :: Prts.auth l else []) ++ Prts.s2 l = l := by
  cases h : Prts.hasA l with
  | false => unfold Prts.s2; rw [h]; simp
  | true =>
    unfold Prts.s2 Prts.auth
    rw [h]
    simp only [if_true, List.cons_append, List.take_append_drop]
    obtain ⟨t, rfl⟩ := pre_iff.1 h
    simp
theorem cat_s3 (l : List UInt8) : Prts.path l ++ Prts.s3 l = l := by unfold Prts.path Prts.s3; exact List.take_append_drop _ _
theorem cat_s4 (l : List UInt8) : (if Prts.hasQ l then 63 :: Prts.query l else []) ++ Prts.s4 l = l := by
  cases h : Prts.hasQ l with
  | false => unfold Prts.s4; rw [h]; simp
  | true =>
    unfold Prts.s4 Prts.query
    rw [h]
    simp only [if_true, List.cons_append, List.take_append_drop]
    obtain ⟨t, rfl⟩ := pre_iff.1 h
    simp
theorem cat_s5 (l : List UInt8) (h : l = [] ∨ Prts.hasF l = true) : (if Prts.hasF l then 35 :: Prts.frag l else []) = l := by
  rcases h with rfl | h
  · rfl
  · unfold Prts.frag
    rw [h]
    obtain ⟨t, rfl⟩ := pre_iff.1 h
    simp
/-- What is split is joined again. -/
theorem text_splitP (l : List UInt8) : (splitP l).text = l := by
  show ((if l.take (sch l) = [] then [] else l.take (sch l) ++ [58]) ++ (if Prts.hasA (Prts.s1 l) then 47 :: 47 :: Prts.auth (Prts.s1 l) else []) ++ Prts.path (Prts.s2 (Prts.s1 l)) ++
    ((if Prts.hasQ (Prts.s3 (Prts.s2 (Prts.s1 l))) then 63 :: Prts.query (Prts.s3 (Prts.s2 (Prts.s1 l))) else []) ++ (if Prts.hasF (Prts.s4 (Prts.s3 (Prts.s2 (Prts.s1 l)))) then 35 :: Prts.frag (Prts.s4 (Prts.s3 (Prts.s2 (Prts.s1 l)))) else []))) = l
  rw [cat_s5 _ (s4_head _), cat_s4, List.append_assoc, List.append_assoc, cat_s3, cat_s2, cat_s1]
/-- The base's path that a relative path is told from. -/
def frm (b : Prts) : List UInt8 := if (b.pa.isEmpty && b.ha) = true then [47] else b.pa
/-- Up to which place two paths go the same way, by whole segments. -/
def comN : List UInt8 → List UInt8 → Nat → Nat → Nat
  | x :: p, y :: t, i, n => if x = y then comN p t (i + 1) (if x = 47 then i + 1 else n) else n
  | [], _, _, n => n
  | _ :: _, [], _, n => n
theorem comN_le : ∀ (p t : List UInt8) (i n : Nat), n ≤ i → comN p t i n ≤ i + p.length ∧ comN p t i n ≤ i + t.length
  | [], t, i, n, h => by simp [comN]; omega
  | x :: p, [], i, n, h => by simp [comN]; omega
  | x :: p, y :: t, i, n, h => by
    simp only [comN]
    split
    · have := comN_le p t (i + 1) (if x = 47 then i + 1 else n) (by split <;> omega)
      simp only [List.length_cons]
      omega
    · simp only [List.length_cons]; omega
def com (p t : List UInt8) : Nat := comN p t 0 0
theorem com_le (p t : List UInt8) : com p t ≤ p.length ∧ com p t ≤ t.length := by have := comN_le p t 0 0 (Nat.le_refl _); unfold com; omega
theorem comN_step {p t : List UInt8} {k n : Nat} (hp : k < p.length) (ht : k < t.length) (h : p[k] = t[k]) : comN (p.drop k) (t.drop k) k n = comN (p.drop (k + 1)) (t.drop (k + 1)) (k + 1) (if p[k] = 47 then k + 1 else n) := by
  rw [List.drop_eq_getElem_cons hp, List.drop_eq_getElem_cons ht]
  simp only [comN]
  rw [if_pos h]
theorem comN_diff {p t : List UInt8} {k n : Nat} (hp : k < p.length) (ht : k < t.length) (h : p[k] ≠ t[k]) : comN (p.drop k) (t.drop k) k n = n := by
  rw [List.drop_eq_getElem_cons hp, List.drop_eq_getElem_cons ht]
  simp only [comN]
  rw [if_neg h]
theorem comN_endp {p t : List UInt8} {k n : Nat} (hp : p.length ≤ k) : comN (p.drop k) t k n = n := by
  rw [List.drop_of_length_le hp]; simp [comN]
theorem comN_endt {p t : List UInt8} {k n : Nat} (ht : t.length ≤ k) : comN p (t.drop k) k n = n := by
  rw [List.drop_of_length_le ht]; cases p <;> simp [comN]
/-- How many slashes the base's path has behind that place; the target's path behind it. -/
def upN (b t : Prts) : Nat := ((frm b).drop (com (frm b) t.pa)).count 47
def rst (b t : Prts) : List UInt8 := t.pa.drop (com (frm b) t.pa)
/-- Does a relative path want './' ahead? -/
def dotW (b t : Prts) : Bool := decide (upN b t = 0) && ((rst b t).isEmpty || (rst b t).head? == some 47 || ((rst b t).take (toS (rst b t))).contains 58)
def way (b t : Prts) : List UInt8 := if dotW b t = true then [46, 47] ++ rst b t else Lib.repeatL [46, 46, 47] (upN b t) ++ rst b t
/-- The short forms. -/
def fms (b t : Prts) (whole : List UInt8) : List (List UInt8) :=
  [[]] ++ (if t.hf then [35 :: t.fr] else []) ++ (if t.hq then [t.tail] else []) ++ [way b t ++ t.tail, t.pa ++ t.tail] ++ (if t.ha then [whole.drop (t.sc.length + 1)] else [])
/-- The shortest of the forms so far that mean the target. -/
def relS (base goal : List UInt8) (s : List UInt8 × Bool) (f : List UInt8) : List UInt8 × Bool :=
  if (decide ((resE base f).2 = 0) && decide ((resE base f).1 = goal) && (!s.2 || decide (f.length < s.1.length))) = true then (f, true) else s
def relF (base goal : List UInt8) (l : List (List UInt8)) : List UInt8 × Bool := l.foldl (relS base goal) (goal, false)
def relE (base goal : List UInt8) : List UInt8 × Int :=
  if irE base ≠ 0 then ([], irE base) else if irE goal ≠ 0 then ([], irE goal) else ((relF base goal (fms (splitP base) (splitP goal) goal ++ [goal])).1, 0)
theorem frm_len (b : Prts) : (frm b).length ≤ b.pa.length + 1 := by unfold frm; split <;> simp
theorem upN_le (b t : Prts) : upN b t ≤ b.pa.length + 1 := by
  have h1 := List.count_le_length (a := (47 : UInt8)) (l := (frm b).drop (com (frm b) t.pa))
  have h2 := frm_len b
  unfold upN
  simp only [List.length_drop] at h1
  omega
theorem way_len (b t : Prts) : (way b t).length ≤ 3 * b.pa.length + t.pa.length + 5 := by
  have h1 := upN_le b t
  have h2 : (rst b t).length ≤ t.pa.length := by unfold rst; simp
  unfold way
  split
  · simp; omega
  · rw [List.length_append, Lib.repeatL_length]; simp; omega
end Go.Tk
