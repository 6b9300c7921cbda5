/- A short form means the same. Plain. -/
import Derived.Test.YthdkhlkmcebfeaaIriTq
set_option linter.unusedVariables false
set_option linter.unusedSimpArgs false
namespace Go.Tk
open Go Go.RowKit
theorem schF_none : ∀ (a b : List UInt8) (i : Nat), (∀ x ∈ a, x ≠ 58) → (b = [] ∨ ∃ y t, b = y :: t ∧ among [47, 63, 35] y = true) → schF (a ++ b) i = 0
  | [], b, i, _, hb => by
    rcases hb with rfl | ⟨y, t, rfl, hy⟩
    · rfl
    · simp [among] at hy
      simp only [List.nil_append, schF]
      rcases hy with rfl | rfl | rfl
      · rw [if_neg (by decide), if_neg (by simp [isL, isM, isD])]
      · rw [if_neg (by decide), if_neg (by simp [isL, isM, isD])]
      · rw [if_neg (by decide), if_neg (by simp [isL, isM, isD])]
  | x :: a, b, i, ha, hb => by
    have hx : ¬ x.toNat = 58 := fun e => ha x (by simp) (UInt8.toNat.inj (by simpa using e))
    simp only [List.cons_append, schF]
    rw [if_neg hx]
    split
    · exact schF_none a b (i + 1) (fun y hy => ha y (by simp [hy])) hb
    · rfl
/-- The path of a text without scheme and authority, whose first byte is none of a query or a fragment. -/
theorem path_some {x : UInt8} {l : List UInt8} (h1 : sch (x :: l) = 0) (h2 : x ≠ 47) (h3 : among [63, 35] x = false) : (splitP (x :: l)).pa ≠ [] := by
  have e1 : Prts.s1 (x :: l) = x :: l := by unfold Prts.s1; rw [if_pos h1]
  have e2 : Prts.hasA (x :: l) = false := pre2_no fun t e => h2 (by cases e; rfl)
  have e3 : Prts.s2 (x :: l) = x :: l := by unfold Prts.s2; rw [if_neg (by simp [e2])]
  show Prts.path (Prts.s2 (Prts.s1 (x :: l))) ≠ []
  rw [e1, e3]
  unfold Prts.path
  rw [unt_no h3]
  simp
theorem sch_dot (l : List UInt8) : sch (46 :: l) = 0 := by
  unfold sch
  simp only [schF]
  rw [if_neg (by decide), if_neg (by simp [isL])]
theorem way_path (b : Prts) (g : List UInt8) : (splitP (way b (splitP g) ++ (splitP g).tail)).pa ≠ [] := by
  have hw := (WF_split g).1
  generalize splitP g = t at hw ⊢
  have hth := tail_head t
  by_cases hd : dotW b t = true
  · unfold way
    rw [if_pos hd]
    exact path_some (sch_dot _) (by decide) (by decide)
  · unfold way
    rw [if_neg hd]
    cases hu : upN b t with
    | succ k =>
      show (splitP (([46, 46, 47] ++ Lib.repeatL [46, 46, 47] k ++ rst b t) ++ t.tail)).pa ≠ []
      exact path_some (sch_dot _) (by decide) (by decide)
    | zero =>
      have hd' : (rst b t).isEmpty = false ∧ ((rst b t).head? == some 47) = false ∧ ((rst b t).take (toS (rst b t))).contains 58 = false := by
        unfold dotW at hd
        rw [hu] at hd
        simp only [decide_true, Bool.true_and, Bool.or_eq_true, not_or, Bool.not_eq_true] at hd
        exact ⟨hd.1.1, hd.1.2, hd.2⟩
      have hmem : ∀ x ∈ rst b t, among [63, 35] x = false := fun x hx => hw.pa x (by unfold rst at hx; exact List.mem_of_mem_drop hx)
      show (splitP (Lib.repeatL [46, 46, 47] 0 ++ rst b t ++ t.tail)).pa ≠ []
      show (splitP ([] ++ rst b t ++ t.tail)).pa ≠ []
      generalize rst b t = R at hd' hmem ⊢
      cases R with
      | nil => simp at hd'
      | cons x q =>
        obtain ⟨_, d2, d3⟩ := hd'
        have hx47 : x ≠ 47 := by simpa using d2
        rw [List.nil_append]
        have hsch : sch ((x :: q) ++ t.tail) = 0 := by
          have e : (x :: q) ++ t.tail = (x :: q).take (toS (x :: q)) ++ ((x :: q).drop (toS (x :: q)) ++ t.tail) := by rw [← List.append_assoc, List.take_append_drop]
          rw [e]
          refine schF_none _ _ 0 (fun y hy e58 => ?_) ?_
          · subst e58
            have : ((x :: q).take (toS (x :: q))).contains 58 = true := List.contains_iff_mem.2 hy
            rw [this] at d3; cases d3
          · rcases drop_toS (x :: q) with e1 | ⟨v, e1⟩
            · rw [e1]
              rcases hth with e2 | ⟨y, v, e2, hy⟩
              · left; rw [e2]; rfl
              · right; exact ⟨y, v, by rw [e2]; rfl, among_up hy⟩
            · right; exact ⟨47, v ++ t.tail, by rw [e1]; rfl, by decide⟩
        exact path_some hsch hx47 (hmem x (by simp))
theorem fms_short (b : Prts) (g f : List UInt8) (hf : f ∈ fms b (splitP g) g ++ [g]) : f.length ≤ g.length ∨ f = way b (splitP g) ++ (splitP g).tail := by
  have e := text_splitP g
  have e2 : g.length = (splitP g).text.length := by rw [e]
  rw [text_shape] at e2
  simp only [List.length_append] at e2
  have h1 : (if (splitP g).hf = true then 35 :: (splitP g).fr else []).length ≤ (splitP g).tail.length := by
    show _ ≤ (tailL (splitP g).qu (splitP g).fr (splitP g).hq (splitP g).hf).length
    unfold tailL
    simp
  unfold fms at hf
  simp only [List.mem_append, List.mem_cons, List.not_mem_nil, or_false] at hf
  rcases hf with ((((rfl | hf) | hf) | rfl | rfl) | hf) | rfl
  · left; simp
  · left
    split at hf
    · rename_i hh
      rw [if_pos hh] at h1
      have : f = 35 :: (splitP g).fr := by simpa using hf
      rw [this]; omega
    · simp at hf
  · left
    split at hf
    · have : f = (splitP g).tail := by simpa using hf
      rw [this]; omega
    · simp at hf
  · right; rfl
  · left; rw [List.length_append]; omega
  · left
    split at hf
    · have : f = g.drop ((splitP g).sc.length + 1) := by simpa using hf
      rw [this]; simp
    · simp at hf
  · left; exact Nat.le_refl _
/-- A text without segments of dots means itself. -/
theorem res_self {b g : List UInt8} (hb : irE b = 0) (hg : irE g = 0) (hd : dotsB (splitP g).pa = false) : resE b g = (g, 0) := by
  obtain ⟨g1, g2⟩ := (irE_iff _).1 hg
  obtain ⟨g3, g4⟩ := (refE_iff _).1 g1
  have hsc := split_sc g2
  have hp : (splitP g).sc.isEmpty = false := by cases h : (splitP g).sc with
    | nil => exact absurd h hsc
    | cons _ _ => rfl
  unfold resE
  have htg : targetP (splitP b) (splitP g) = splitP g := by
    unfold targetP
    rw [if_pos hp, cl_keep hd]
  rw [if_neg (by simp [hb]), if_neg (by simp [g1]), htg, text_splitP, if_neg (by omega)]
/-- What the search keeps. -/
def RI (b g : List UInt8) (st : List UInt8 × Bool) : Prop := (st.2 = false ∧ st.1 = g) ∨ (st.2 = true ∧ resE b st.1 = (g, 0))
theorem relS_cases (b g f : List UInt8) (st : List UInt8 × Bool) : (resE b f = (g, 0) ∧ (st.2 = false ∨ f.length < st.1.length) ∧ relS b g st f = (f, true)) ∨ (¬ (resE b f = (g, 0) ∧ (st.2 = false ∨ f.length < st.1.length)) ∧ relS b g st f = st) := by
  unfold relS
  split
  · rename_i h
    left
    simp only [Bool.and_eq_true, decide_eq_true_eq, Bool.or_eq_true, Bool.not_eq_true'] at h
    exact ⟨Prod.ext h.1.2 h.1.1, h.2, rfl⟩
  · rename_i h
    right
    refine ⟨fun hc => h ?_, rfl⟩
    obtain ⟨c1, c2⟩ := hc
    rw [c1]
    simp only [decide_true, Bool.true_and, Bool.or_eq_true, Bool.not_eq_true', decide_eq_true_eq]
    exact c2
theorem RI.step {b g : List UInt8} {st : List UInt8 × Bool} (h : RI b g st) (f : List UInt8) : RI b g (relS b g st f) := by
  rcases relS_cases b g f st with ⟨h1, _, h3⟩ | ⟨_, h3⟩
  · rw [h3]; exact .inr ⟨rfl, h1⟩
  · rw [h3]; exact h
theorem RI.fold {b g : List UInt8} : ∀ (l : List (List UInt8)) (st : List UInt8 × Bool), RI b g st → RI b g (l.foldl (relS b g) st)
  | [], _, h => h
  | f :: l, st, h => RI.fold l _ (h.step f)
theorem short_fold {b g : List UInt8} : ∀ (l : List (List UInt8)) (st : List UInt8 × Bool), (∀ f ∈ l, resE b f = (g, 0) → f.length ≤ g.length) → st.1.length ≤ g.length → (l.foldl (relS b g) st).1.length ≤ g.length
  | [], _, _, h => h
  | f :: l, st, hl, h => by
    refine short_fold l _ (fun x hx => hl x (by simp [hx])) ?_
    rcases relS_cases b g f st with ⟨h1, _, h3⟩ | ⟨_, h3⟩
    · rw [h3]; exact hl f (by simp) h1
    · rw [h3]; exact h
theorem relF_laws {b g : List UInt8} (hb : irE b = 0) (hg : irE g = 0) :
    (relF b g (fms (splitP b) (splitP g) g ++ [g])).1.length ≤ g.length ∧ (dotsB (splitP g).pa = false → resE b (relF b g (fms (splitP b) (splitP g) g ++ [g])).1 = (g, 0)) := by
  have hshort := fms_short (splitP b) g
  have hway := way_path (splitP b) g
  obtain ⟨L, hL⟩ : ∃ L, L = fms (splitP b) (splitP g) g := ⟨_, rfl⟩
  rw [← hL] at hshort ⊢
  unfold relF
  have hI : RI b g (L.foldl (relS b g) (g, false)) := RI.fold _ _ (.inl ⟨rfl, rfl⟩)
  rw [List.foldl_append]
  show (relS b g (L.foldl (relS b g) (g, false)) g).1.length ≤ g.length ∧ (_ → resE b (relS b g (L.foldl (relS b g) (g, false)) g).1 = (g, 0))
  by_cases hs : resE b g = (g, 0)
  · constructor
    · rcases relS_cases b g g (L.foldl (relS b g) (g, false)) with ⟨_, _, h3⟩ | ⟨h1, h3⟩
      · rw [h3]; exact Nat.le_refl _
      · rw [h3]
        apply Classical.byContradiction
        intro hc
        exact h1 ⟨hs, .inr (by omega)⟩
    · intro _
      rcases relS_cases b g g (L.foldl (relS b g) (g, false)) with ⟨h1, _, h3⟩ | ⟨h1, h3⟩
      · rw [h3]; exact h1
      · rw [h3]
        rcases hI with ⟨c1, _⟩ | ⟨_, c2⟩
        · exact absurd ⟨hs, .inl c1⟩ h1
        · exact c2
  · have hd : dotsB (splitP g).pa = true := by
      cases e : dotsB (splitP g).pa with
      | true => rfl
      | false => exact absurd (res_self hb hg e) hs
    have hlen : ∀ f ∈ L, resE b f = (g, 0) → f.length ≤ g.length := fun f hf hr => by
      rcases hshort f (List.mem_append_left _ hf) with h | h
      · exact h
      · exfalso
        have hr2 : (resE b f).2 = 0 := by rw [hr]
        have hrf : refE f = 0 := by
          unfold resE at hr2
          rw [if_neg (by simp [hb])] at hr2
          by_cases hx : refE f = 0
          · exact hx
          · rw [if_pos hx] at hr2; exact absurd hr2 hx
        have := (resolved hb hrf hr2).2.2.1 (by rw [hr]; exact hd)
        rw [h] at this
        exact hway this.1
    have hl := short_fold L (g, false) hlen (Nat.le_refl _)
    refine ⟨?_, fun h => by rw [hd] at h; cases h⟩
    rcases relS_cases b g g (L.foldl (relS b g) (g, false)) with ⟨_, _, h3⟩ | ⟨_, h3⟩
    · rw [h3]; exact Nat.le_refl _
    · rw [h3]; exact hl
theorem empty_fold {b g : List UInt8} : ∀ (l : List (List UInt8)), l.foldl (relS b g) ([], true) = ([], true)
  | [] => rfl
  | f :: l => by
    rw [List.foldl_cons]
    have : relS b g ([], true) f = ([], true) := by
      rcases relS_cases b g f ([], true) with ⟨_, h2, _⟩ | ⟨_, h3⟩
      · rcases h2 with h | h
        · cases h
        · simp at h
      · exact h3
    rw [this]; exact empty_fold l
theorem rel_own {b : List UInt8} (hb : irE b = 0) : relE b (ownP b).text = ([], 0) := by
  obtain ⟨l1, l2, l3, l4⟩ := own_laws hb
  unfold relE
  rw [if_neg (by simp [hb]), if_neg (by simp [l3])]
  have : fms (splitP b) (splitP (ownP b).text) (ownP b).text ++ [(ownP b).text] = [] :: ((if (splitP (ownP b).text).hf then [35 :: (splitP (ownP b).text).fr] else []) ++ (if (splitP (ownP b).text).hq then [(splitP (ownP b).text).tail] else []) ++ [way (splitP b) (splitP (ownP b).text) ++ (splitP (ownP b).text).tail, (splitP (ownP b).text).pa ++ (splitP (ownP b).text).tail] ++ (if (splitP (ownP b).text).ha then [(ownP b).text.drop ((splitP (ownP b).text).sc.length + 1)] else []) ++ [(ownP b).text]) := by
    unfold fms; simp [List.append_assoc]
  rw [this]
  unfold relF
  rw [List.foldl_cons]
  have h1 : relS b (ownP b).text ((ownP b).text, false) [] = ([], true) := by
    rcases relS_cases b (ownP b).text [] ((ownP b).text, false) with ⟨_, _, h3⟩ | ⟨h1, _⟩
    · exact h3
    · exact absurd ⟨l1, .inl rfl⟩ h1
  rw [h1, empty_fold]
theorem relE_main {b g : List UInt8} (hb : irE b = 0) (hg : irE g = 0) : (relE b g).2 = 0 ∧ (relE b g).1.length ≤ g.length ∧ (dotsB (splitP g).pa = false → resE b (relE b g).1 = (g, 0)) := by
  have := relF_laws hb hg
  unfold relE
  rw [if_neg (by simp [hb]), if_neg (by simp [hg])]
  exact ⟨rfl, this.1, this.2⟩
theorem relE_bad {b g : List UInt8} (h : irE b ≠ 0 ∨ irE g ≠ 0) : (relE b g).1 = [] ∧ (relE b g).2 ≠ 0 := by
  unfold relE
  by_cases hb : irE b = 0
  · rw [if_neg (by simp [hb])]
    have hg : irE g ≠ 0 := by rcases h with h | h; exact absurd hb h; exact h
    rw [if_pos hg]; exact ⟨rfl, hg⟩
  · rw [if_pos hb]; exact ⟨rfl, hb⟩
end Go.Tk
