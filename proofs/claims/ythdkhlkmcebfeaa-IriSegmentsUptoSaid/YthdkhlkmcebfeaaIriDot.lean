/- The segments of a path, and that a cleaned path has no dot segments and stays: plain. -/
import Derived.Test.YthdkhlkmcebfeaaIriCut
set_option linter.unusedVariables false
set_option linter.unusedSimpArgs false
namespace Go.Tk
open Go
/-- The segments of a text: what stands between its slashes. -/
def segs : List UInt8 → List (List UInt8)
  | [] => [[]]
  | b :: l => if b = 47 then [] :: segs l else match segs l with
    | s :: r => (b :: s) :: r
    | [] => [[b]]
theorem segs_ne : ∀ l : List UInt8, segs l ≠ []
  | [] => by simp [segs]
  | b :: l => by
    simp only [segs]
    split
    · simp
    · split <;> simp
theorem segs_slash (l : List UInt8) : segs (47 :: l) = [] :: segs l := by simp [segs]
theorem segs_other {b : UInt8} (h : b ≠ 47) {l s : List UInt8} {r : List (List UInt8)} (e : segs l = s :: r) : segs (b :: l) = (b :: s) :: r := by
  simp only [segs]
  rw [if_neg h, e]
theorem segs_cat : ∀ a b : List UInt8, segs (a ++ 47 :: b) = segs a ++ segs b
  | [], b => by simp [segs]
  | x :: a, b => by
    have ih := segs_cat a b
    by_cases h : x = 47
    · subst h
      rw [List.cons_append, segs_slash, segs_slash, ih, List.cons_append]
    · obtain ⟨s, r, e⟩ : ∃ s r, segs a = s :: r := by
        cases hs : segs a with
        | nil => exact absurd hs (segs_ne a)
        | cons s r => exact ⟨s, r, rfl⟩
      rw [List.cons_append, segs_other h (s := s) (r := r ++ segs b) (by rw [ih, e]; rfl), segs_other h e, List.cons_append]
theorem segs_one : ∀ a : List UInt8, (∀ x ∈ a, x ≠ 47) → segs a = [a]
  | [], _ => by simp [segs]
  | x :: a, h => segs_other (h x (by simp)) (segs_one a (fun y hy => h y (by simp [hy])))
/-- Is a segment one of dots? -/
def dotS (s : List UInt8) : Bool := s == [46] || s == [46, 46]
/-- Has a path a segment of dots? -/
def dotsB (l : List UInt8) : Bool := (segs l).any dotS
theorem dots_cat (a b : List UInt8) : dotsB (a ++ 47 :: b) = (dotsB a || dotsB b) := by unfold dotsB; rw [segs_cat, List.any_append]
theorem dots_slash (b : List UInt8) : dotsB (47 :: b) = dotsB b := by unfold dotsB; rw [segs_slash]; simp [dotS]
theorem dots_nil : dotsB [] = false := by simp [dotsB, segs, dotS]
theorem dots_one {a : List UInt8} (h : ∀ x ∈ a, x ≠ 47) : dotsB a = dotS a := by unfold dotsB; rw [segs_one a h]; simp
theorem take_toS : ∀ l : List UInt8, ∀ x ∈ l.take (toS l), x ≠ 47
  | [], x, h => by simp at h
  | b :: l, x, h => by
    simp only [toS] at h
    split at h
    · simp at h
    · rename_i hb
      rw [List.take_succ_cons] at h
      rcases List.mem_cons.1 h with e | e
      · subst e; simpa using hb
      · exact take_toS l x e
theorem drop_toS : ∀ l : List UInt8, l.drop (toS l) = [] ∨ ∃ t, l.drop (toS l) = 47 :: t
  | [] => .inl rfl
  | b :: l => by
    simp only [toS]
    split
    · rename_i hb
      right
      exact ⟨l, by simp at hb; simp [hb]⟩
    · simpa using drop_toS l
theorem pre_iff {p q : List UInt8} : Lib.hasPrefix p q = true ↔ ∃ t, p = q ++ t := by
  rw [← Lib.hasPrefix_of_take]
  constructor
  · intro h
    simp only [Bool.and_eq_true, decide_eq_true_eq, beq_iff_eq] at h
    exact ⟨p.drop q.length, by
      have := List.take_append_drop q.length p
      rw [h.2] at this
      exact this.symm⟩
  · rintro ⟨t, rfl⟩
    simp
theorem pre_mk (q t : List UInt8) : Lib.hasPrefix (q ++ t) q = true := pre_iff.2 ⟨t, rfl⟩
theorem dots_upB {out : List UInt8} (h : dotsB out = false) : dotsB (upB out) = false := by
  rw [upB_lastS]
  rcases lastS_spec 47 out with ⟨h0, _⟩ | ⟨i, hi, h1, h2, _⟩
  · rw [h0]; simp [dots_nil]
  · rw [h1]
    have : out = out.take i ++ 47 :: out.drop (i + 1) := by
      have e := List.drop_eq_getElem_cons hi
      rw [h2] at e
      rw [← e, List.take_append_drop]
    rw [this, dots_cat] at h
    simp only [Bool.or_eq_false_iff] at h
    simpa using h.1
/-- What the rounds of Clean keep. -/
def ClI (p out : List UInt8) : Prop := dotsB out = false ∧ (p = [] ∨ p.head? = some 47 ∨ out = [])
/-- The last case of a round: the first piece has no dots. -/
theorem clS_piece {x : UInt8} {q out : List UInt8} (h1 : ¬ Lib.hasPrefix (x :: q) [46, 46, 47] = true) (h2 : ¬ Lib.hasPrefix (x :: q) [46, 47] = true) (h3 : ¬ Lib.hasPrefix (x :: q) [47, 46, 47] = true)
    (h4 : x :: q ≠ [47, 46]) (h5 : ¬ Lib.hasPrefix (x :: q) [47, 46, 46, 47] = true) (h6 : x :: q ≠ [47, 46, 46]) (h7 : ¬ (x :: q = [46] ∨ x :: q = [46, 46])) (ho : dotsB out = false) (hx : x = 47 ∨ out = []) :
    dotsB (out ++ x :: q.take (toS q)) = false := by
  have ht := take_toS q
  have hd := drop_toS q
  have hq : q = q.take (toS q) ++ q.drop (toS q) := (List.take_append_drop _ _).symm
  obtain ⟨u, hu⟩ : ∃ u, u = q.take (toS q) := ⟨_, rfl⟩
  obtain ⟨v, hv⟩ : ∃ v, v = q.drop (toS q) := ⟨_, rfl⟩
  rw [← hu] at hq ht ⊢
  rw [← hv] at hd hq
  clear hu hv
  by_cases hx7 : x = 47
  · subst hx7
    rw [dots_cat, ho, dots_one ht]
    simp only [Bool.false_or, dotS, Bool.or_eq_false_iff, beq_eq_false_iff_ne]
    constructor
    · rintro rfl
      rcases hd with rfl | ⟨t, rfl⟩
      · exact h4 (by rw [hq]; rfl)
      · exact h3 (pre_iff.2 ⟨t, by rw [hq]; rfl⟩)
    · rintro rfl
      rcases hd with rfl | ⟨t, rfl⟩
      · exact h6 (by rw [hq]; rfl)
      · exact h5 (pre_iff.2 ⟨t, by rw [hq]; rfl⟩)
  · obtain rfl : out = [] := by rcases hx with h | h; exact absurd h hx7; exact h
    rw [List.nil_append, dots_one (by intro y hy; rcases List.mem_cons.1 hy with e | e; rw [e]; exact hx7; exact ht y e)]
    simp only [dotS, Bool.or_eq_false_iff, beq_eq_false_iff_ne]
    constructor
    · intro e
      simp only [List.cons.injEq] at e
      obtain ⟨rfl, rfl⟩ := e
      rcases hd with rfl | ⟨t, rfl⟩
      · exact h7 (.inl (by rw [hq]; rfl))
      · exact h2 (pre_iff.2 ⟨t, by rw [hq]; rfl⟩)
    · intro e
      simp only [List.cons.injEq] at e
      obtain ⟨rfl, rfl⟩ := e
      rcases hd with rfl | ⟨t, rfl⟩
      · exact h7 (.inr (by rw [hq]; rfl))
      · exact h1 (pre_iff.2 ⟨t, by rw [hq]; rfl⟩)
theorem ClI.step {p out : List UInt8} (h : ClI p out) (hp : p ≠ []) : ClI (clS p out).1 (clS p out).2 := by
  obtain ⟨ho, hh⟩ := h
  unfold clS
  split
  · rename_i h1
    obtain ⟨t, rfl⟩ := pre_iff.1 h1
    exact ⟨ho, by simp at hh; exact .inr (.inr hh)⟩
  split
  · rename_i _ h1
    obtain ⟨t, rfl⟩ := pre_iff.1 h1
    exact ⟨ho, by simp at hh; exact .inr (.inr hh)⟩
  split
  · rename_i _ _ h1
    obtain ⟨t, rfl⟩ := pre_iff.1 h1
    exact ⟨ho, .inr (.inl (by simp))⟩
  split
  · exact ⟨ho, .inr (.inl rfl)⟩
  split
  · rename_i _ _ _ _ h1
    obtain ⟨t, rfl⟩ := pre_iff.1 h1
    exact ⟨dots_upB ho, .inr (.inl (by simp))⟩
  split
  · exact ⟨dots_upB ho, .inr (.inl rfl)⟩
  split
  · exact ⟨ho, .inl rfl⟩
  · rename_i h1 h2 h3 h4 h5 h6 h7
    cases p with
    | nil => exact absurd rfl hp
    | cons x q =>
      simp only [List.drop_succ_cons, List.drop_zero, List.take_succ_cons]
      refine ⟨clS_piece h1 h2 h3 h4 h5 h6 h7 ho ?_, ?_⟩
      · rcases hh with h | h | h
        · cases h
        · left; simpa using h
        · exact .inr h
      · rcases drop_toS q with e | ⟨t, e⟩
        · exact .inl e
        · exact .inr (.inl (by rw [e]; rfl))
theorem clN_dots : ∀ (n : Nat) (p out : List UInt8), ClI p out → dotsB (clN n p out) = false
  | 0, _, _, h => h.1
  | n + 1, p, out, h => by
    simp only [clN]
    split
    · exact h.1
    · rename_i hp
      exact clN_dots n _ _ (h.step hp)
/-- A cleaned path has no dot segments. -/
theorem cl_dots (p : List UInt8) : dotsB (cl p []) = false := clN_dots _ p [] ⟨dots_nil, .inr (.inr rfl)⟩
theorem dots_piece (u t : List UInt8) (h : dotsB (u ++ 47 :: t) = false) : dotsB (47 :: t) = false := by
  rw [dots_cat, Bool.or_eq_false_iff] at h
  rw [dots_slash]; exact h.2
/-- A path without dot segments stays. -/
theorem clN_keep : ∀ (n : Nat) (p out : List UInt8), p.length ≤ n → dotsB p = false → clN n p out = out ++ p
  | 0, p, out, h, _ => by
    obtain rfl : p = [] := List.eq_nil_of_length_eq_zero (by omega)
    simp [clN]
  | n + 1, p, out, hn, h => by
    simp only [clN]
    split
    · rename_i e; rw [e]; simp
    rename_i hp
    have hlt := clS_lt p out hp
    have dd : ∀ {s : List UInt8} (t : List UInt8), (∀ x ∈ s, x ≠ 47) → dotS s = true → dotsB (s ++ 47 :: t) = true := fun {s} t hs hd => by rw [dots_cat, dots_one hs, hd]; rfl
    have no : ∀ {q : List UInt8}, dotsB q = true → p = q → False := fun hq e => by rw [e, hq] at h; cases h
    unfold clS
    rw [if_neg (fun h1 => by obtain ⟨t, e⟩ := pre_iff.1 h1; exact no (dd (s := [46, 46]) t (by decide) (by decide)) (by rw [e]; rfl)),
      if_neg (fun h1 => by obtain ⟨t, e⟩ := pre_iff.1 h1; exact no (dd (s := [46]) t (by decide) (by decide)) (by rw [e]; rfl)),
      if_neg (fun h1 => by obtain ⟨t, e⟩ := pre_iff.1 h1; exact no (q := 47 :: ([46] ++ 47 :: t)) (by rw [dots_slash]; exact dd (s := [46]) t (by decide) (by decide)) (by rw [e]; rfl)),
      if_neg (fun e => no (q := [47, 46]) (by decide) e),
      if_neg (fun h1 => by obtain ⟨t, e⟩ := pre_iff.1 h1; exact no (q := 47 :: ([46, 46] ++ 47 :: t)) (by rw [dots_slash]; exact dd (s := [46, 46]) t (by decide) (by decide)) (by rw [e]; rfl)),
      if_neg (fun e => no (q := [47, 46, 46]) (by decide) e),
      if_neg (fun e => by rcases e with e | e; exact no (q := [46]) (by decide) e; exact no (q := [46, 46]) (by decide) e)]
    cases p with
    | nil => exact absurd rfl hp
    | cons x q =>
      simp only [List.drop_succ_cons, List.drop_zero, List.take_succ_cons]
      rw [clN_keep n (q.drop (toS q)) _ (by simp at hn ⊢; omega), List.append_assoc, List.cons_append, List.take_append_drop]
      rcases drop_toS q with e | ⟨t, e⟩
      · rw [e]; exact dots_nil
      · rw [e]
        refine dots_piece (x :: q.take (toS q)) t ?_
        rw [← e, List.cons_append, List.take_append_drop]; exact h
theorem cl_keep {p : List UInt8} (h : dotsB p = false) : cl p [] = p := by unfold cl; rw [clN_keep _ p [] (Nat.le_refl _) h]; simp
end Go.Tk
