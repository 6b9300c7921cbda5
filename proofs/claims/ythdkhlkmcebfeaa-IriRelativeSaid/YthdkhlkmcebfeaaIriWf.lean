/- Parts that are those of their text; the parts of what a reference means. Plain. -/
import Derived.Test.YthdkhlkmcebfeaaIriV
set_option linter.unusedVariables false
set_option linter.unusedSimpArgs false
namespace Go.Tk
open Go Go.RowKit
theorem unt_cat (q : UInt8 → Bool) : ∀ (a b : List UInt8), (∀ x ∈ a, q x = false) → (b = [] ∨ ∃ x t, b = x :: t ∧ q x = true) → unt q (a ++ b) = a.length
  | [], b, _, hb => by
    rcases hb with rfl | ⟨x, t, rfl, hx⟩
    · rfl
    · simp [unt, hx]
  | y :: a, b, ha, hb => by
    have h1 : q y = false := ha y (by simp)
    simp only [List.cons_append, unt, h1, Bool.false_eq_true, if_false, List.length_cons]
    rw [unt_cat q a b (fun x hx => ha x (by simp [hx])) hb]
theorem unt_free (q : UInt8 → Bool) : ∀ l : List UInt8, ∀ x ∈ l.take (unt q l), q x = false
  | [], x, h => by simp at h
  | b :: l, x, h => by
    simp only [unt] at h
    cases hq : q b with
    | true => rw [hq] at h; simp at h
    | false =>
      rw [hq] at h
      simp only [Bool.false_eq_true, if_false, List.take_succ_cons] at h
      rcases List.mem_cons.1 h with e | e
      · rw [e]; exact hq
      · exact unt_free q l x e
/-- Is a text the scheme of any text that begins with it and a colon? -/
def Scm (l : List UInt8) : Prop := ∀ x, sch (l ++ 58 :: x) = l.length
theorem schF_pre : ∀ (l : List UInt8) (i j : Nat), schF l i = i + j → schF l i ≠ 0 → ∀ x, schF (l.take j ++ 58 :: x) i = i + j
  | [], i, j, h, h0, x => by exact absurd rfl h0
  | b :: t, i, j, h, h0, x => by
    by_cases hb : b.toNat = 58
    · have e : schF (b :: t) i = i := by simp only [schF]; rw [if_pos hb]
      rw [e] at h
      obtain rfl : j = 0 := by omega
      simp only [List.take_zero, List.nil_append, schF]
      rw [if_pos (by decide)]; omega
    · by_cases hc : (isL b.toNat || (i != 0 && isM b.toNat)) = true
      · have e : schF (b :: t) i = schF t (i + 1) := by simp only [schF]; rw [if_neg hb, if_pos hc]
        rw [e] at h h0
        obtain ⟨k, h1, _⟩ := schF_at t (i + 1) h0
        obtain rfl : j = k + 1 := by omega
        have ih := schF_pre t (i + 1) k h1 h0 x
        simp only [List.take_succ_cons, List.cons_append, schF]
        rw [if_neg hb, if_pos hc, ih]; omega
      · have e : schF (b :: t) i = 0 := by simp only [schF]; rw [if_neg hb, if_neg hc]
        exact absurd e h0
theorem sch_scm {l : List UInt8} (h : sch l ≠ 0) : Scm (l.take (sch l)) := by
  intro x
  have := schF_pre l 0 (sch l) (by unfold sch; omega) h x
  have hl := sch_le l
  unfold sch at this ⊢
  rw [this, List.length_take]
  unfold sch at hl
  omega
/-- Parts that may stand as they are (a path without authority may begin with two slashes). -/
structure WF (p : Prts) : Prop where
  au : ∀ b ∈ p.au, among [47, 63, 35] b = false
  pa : ∀ b ∈ p.pa, among [63, 35] b = false
  qu : ∀ b ∈ p.qu, among [35] b = false
  ha : p.ha = true → p.pa = [] ∨ ∃ t, p.pa = 47 :: t
  na : p.ha = false → p.au = []
  nq : p.hq = false → p.qu = []
  nf : p.hf = false → p.fr = []
  sc : p.sc = [] ∨ (p.sc ≠ [] ∧ Scm p.sc)
/-- .. and no path that reads as an authority. -/
def Nsl (p : Prts) : Prop := p.ha = false → ∀ t, p.pa ≠ 47 :: 47 :: t
theorem among_sub {b : UInt8} (h : among [47, 63, 35] b = false) : among [63, 35] b = false := by
  simp [among] at h ⊢; exact ⟨h.2.1, h.2.2⟩
theorem WF_split (l : List UInt8) : WF (splitP l) ∧ Nsl (splitP l) := by
  refine ⟨⟨?_, ?_, ?_, ?_, ?_, ?_, ?_, ?_⟩, ?_⟩
  · show ∀ b ∈ Prts.auth (Prts.s1 l), _
    unfold Prts.auth
    split
    · exact unt_free _ _
    · simp
  · exact unt_free _ _
  · show ∀ b ∈ Prts.query (Prts.s3 (Prts.s2 (Prts.s1 l))), _
    unfold Prts.query
    split
    · exact unt_free _ _
    · simp
  · intro h
    show Prts.path (Prts.s2 (Prts.s1 l)) = [] ∨ ∃ t, Prts.path (Prts.s2 (Prts.s1 l)) = 47 :: t
    have h' : Prts.hasA (Prts.s1 l) = true := h
    unfold Prts.s2
    rw [if_pos h']
    rcases unt_drop (among [47, 63, 35]) ((Prts.s1 l).drop 2) with e | ⟨b, t, e, hb⟩
    · rw [e]; exact .inl rfl
    · rw [e]
      unfold Prts.path
      by_cases h47 : b = 47
      · subst h47
        right
        rw [unt_no (by decide)]
        exact ⟨_, rfl⟩
      · left
        have : among [63, 35] b = true := by simp [among] at hb ⊢; rcases hb with hb | hb; exact absurd hb h47; exact hb
        rw [unt_yes this]; rfl
  · intro h
    have h' : Prts.hasA (Prts.s1 l) = false := h
    show Prts.auth (Prts.s1 l) = []
    unfold Prts.auth; rw [if_neg (by simp [h'])]
  · intro h
    have h' : Prts.hasQ (Prts.s3 (Prts.s2 (Prts.s1 l))) = false := h
    show Prts.query _ = []
    unfold Prts.query; rw [if_neg (by simp [h'])]
  · intro h
    have h' : Prts.hasF (Prts.s4 (Prts.s3 (Prts.s2 (Prts.s1 l)))) = false := h
    show Prts.frag _ = []
    rcases s4_head (Prts.s2 (Prts.s1 l)) with e | e
    · rw [e]; rfl
    · rw [e] at h'; cases h'
  · show l.take (sch l) = [] ∨ _
    by_cases h : sch l = 0
    · left; rw [h]; rfl
    · right
      have hl := sch_le l
      refine ⟨?_, sch_scm h⟩
      intro e
      have := congrArg List.length e
      rw [show (splitP l).sc = l.take (sch l) from rfl, List.length_take, List.length_nil] at this
      omega
  · intro h t e
    have h' : Prts.hasA (Prts.s1 l) = false := h
    have e' : Prts.path (Prts.s2 (Prts.s1 l)) = 47 :: 47 :: t := e
    unfold Prts.s2 at e'
    rw [if_neg (by simp [h'])] at e'
    have : Prts.hasA (Prts.s1 l) = true := by
      unfold Prts.hasA
      refine pre_iff.2 ⟨t ++ Prts.s3 (Prts.s1 l), ?_⟩
      have := cat_s3 (Prts.s1 l)
      rw [e'] at this
      exact this.symm
    rw [this] at h'; cases h'
/-- What stands behind the path: query and fragment. -/
theorem tail_head (p : Prts) : p.tail = [] ∨ ∃ x t, p.tail = x :: t ∧ among [63, 35] x = true := by
  unfold Prts.tail tailL
  cases p.hq with
  | true => right; exact ⟨63, _, rfl, by decide⟩
  | false =>
    cases p.hf with
    | true => right; exact ⟨35, _, rfl, by decide⟩
    | false => left; rfl
theorem among_up {x : UInt8} (h : among [63, 35] x = true) : among [47, 63, 35] x = true := by
  simp [among] at h ⊢; exact .inr h
theorem among_ne47 {x : UInt8} (h : among [63, 35] x = true) : x ≠ 47 := by
  rintro rfl; revert h; decide
theorem pre2_no {l : List UInt8} (h : ∀ t, l ≠ 47 :: 47 :: t) : Prts.hasA l = false := by
  cases e : Prts.hasA l with
  | false => rfl
  | true =>
    obtain ⟨t, rfl⟩ := pre_iff.1 e
    exact absurd rfl (h t)
/-- Parts are those of their text. -/
theorem split_text {p : Prts} (h : WF p) (hn : Nsl p) (hs : p.sc ≠ []) : splitP p.text = p := by
  have hth := tail_head p
  have hscm : Scm p.sc := by rcases h.sc with e | e; exact absurd e hs; exact e.2
  obtain ⟨X, hX⟩ : ∃ X, X = (if p.ha then 47 :: 47 :: p.au else []) ++ p.pa ++ p.tail := ⟨_, rfl⟩
  have htx : p.text = p.sc ++ 58 :: X := by
    unfold Prts.text joinL
    rw [if_neg hs, hX]
    show p.sc ++ [58] ++ _ ++ p.pa ++ p.tail = _
    simp
  have hsch : sch p.text = p.sc.length := by rw [htx]; exact hscm X
  have hlen : p.sc.length ≠ 0 := by intro e; exact hs (List.eq_nil_of_length_eq_zero e)
  have hs1 : Prts.s1 p.text = X := by
    unfold Prts.s1
    rw [hsch, if_neg hlen, htx]
    have : p.sc.length + 1 = (p.sc ++ [58]).length := by simp
    rw [this, show p.sc ++ 58 :: X = (p.sc ++ [58]) ++ X by simp, List.drop_left]
  have hpt : p.pa ++ p.tail = [] ∨ ∃ x t, p.pa ++ p.tail = x :: t ∧ (p.ha = true → among [47, 63, 35] x = true) := by
    cases hp : p.pa with
    | nil =>
      rcases hth with e | ⟨x, t, e, hx⟩
      · left; rw [e]; rfl
      · right; exact ⟨x, t, by rw [e]; rfl, fun _ => among_up hx⟩
    | cons y t =>
      right
      refine ⟨y, t ++ p.tail, rfl, fun ha => ?_⟩
      rcases h.ha ha with e | ⟨u, e⟩
      · rw [e] at hp; cases hp
      · rw [e] at hp; cases hp; decide
  have hA : Prts.hasA X = p.ha ∧ Prts.auth X = p.au ∧ Prts.s2 X = p.pa ++ p.tail := by
    cases hha : p.ha with
    | true =>
      have hX2 : X = 47 :: 47 :: (p.au ++ (p.pa ++ p.tail)) := by rw [hX, hha]; simp
      have hb : Prts.hasA X = true := by rw [hX2]; exact pre_mk [47, 47] _
      have hu : unt (among [47, 63, 35]) (p.au ++ (p.pa ++ p.tail)) = p.au.length := by
        refine unt_cat _ _ _ h.au ?_
        rcases hpt with e | ⟨x, t, e, hx⟩
        · exact .inl e
        · exact .inr ⟨x, t, e, hx hha⟩
      refine ⟨hb, ?_, ?_⟩
      · unfold Prts.auth
        rw [if_pos hb, hX2]
        simp only [List.drop_succ_cons, List.drop_zero]
        rw [hu, List.take_left]
      · unfold Prts.s2
        rw [if_pos hb, hX2]
        simp only [List.drop_succ_cons, List.drop_zero]
        rw [hu, List.drop_left]
    | false =>
      have hX2 : X = p.pa ++ p.tail := by rw [hX, hha]; simp
      have hb : Prts.hasA X = false := by
        rw [hX2]
        refine pre2_no fun t e => ?_
        cases hp : p.pa with
        | nil =>
          rw [hp] at e
          rcases hth with e2 | ⟨x, u, e2, hx⟩
          · rw [e2] at e; cases e
          · rw [e2] at e; cases e; revert hx; decide
        | cons y u =>
          cases u with
          | nil =>
            rw [hp] at e
            rcases hth with e2 | ⟨x, v, e2, hx⟩
            · rw [e2] at e; cases e
            · rw [e2] at e; cases e; revert hx; decide
          | cons z v =>
            rw [hp] at e
            simp only [List.cons_append, List.cons.injEq] at e
            exact hn hha v (by rw [hp, e.1, e.2.1])
      refine ⟨hb, ?_, ?_⟩
      · unfold Prts.auth; rw [if_neg (by simp [hb]), h.na hha]
      · unfold Prts.s2; rw [if_neg (by simp [hb]), hX2]
  have hu3 : unt (among [63, 35]) (p.pa ++ p.tail) = p.pa.length := unt_cat _ _ _ h.pa hth
  have hpath : Prts.path (p.pa ++ p.tail) = p.pa ∧ Prts.s3 (p.pa ++ p.tail) = p.tail := by
    unfold Prts.path Prts.s3
    rw [hu3]
    exact ⟨List.take_left, List.drop_left⟩
  have htl : p.tail = (if p.hq then 63 :: p.qu else []) ++ (if p.hf then 35 :: p.fr else []) := rfl
  have hQ : Prts.hasQ p.tail = p.hq ∧ Prts.query p.tail = p.qu ∧ Prts.s4 p.tail = (if p.hf then 35 :: p.fr else []) := by
    cases hq : p.hq with
    | true =>
      have ht : p.tail = 63 :: (p.qu ++ (if p.hf then 35 :: p.fr else [])) := by rw [htl, hq]; simp
      have hb : Prts.hasQ p.tail = true := by rw [ht]; exact pre_mk [63] _
      have hu : unt (among [35]) (p.qu ++ (if p.hf then 35 :: p.fr else [])) = p.qu.length := by
        refine unt_cat _ _ _ h.qu ?_
        cases p.hf with
        | true => exact .inr ⟨35, p.fr, rfl, by decide⟩
        | false => exact .inl rfl
      refine ⟨hb, ?_, ?_⟩
      · unfold Prts.query
        rw [if_pos hb, ht]
        simp only [List.drop_succ_cons, List.drop_zero]
        rw [hu, List.take_left]
      · unfold Prts.s4
        rw [if_pos hb, ht]
        simp only [List.drop_succ_cons, List.drop_zero]
        rw [hu, List.drop_left]
    | false =>
      have ht : p.tail = (if p.hf then 35 :: p.fr else []) := by rw [htl, hq]; simp
      have hb : Prts.hasQ p.tail = false := by rw [ht]; cases p.hf <;> rfl
      refine ⟨hb, ?_, ?_⟩
      · unfold Prts.query; rw [if_neg (by simp [hb]), h.nq hq]
      · unfold Prts.s4; rw [if_neg (by simp [hb]), ht]
  have hF : Prts.hasF (if p.hf then 35 :: p.fr else []) = p.hf ∧ Prts.frag (if p.hf then 35 :: p.fr else []) = p.fr := by
    cases hf : p.hf with
    | true =>
      have e : Prts.hasF (35 :: p.fr) = true := pre_mk [35] p.fr
      refine ⟨e, ?_⟩
      show Prts.frag (35 :: p.fr) = p.fr
      unfold Prts.frag; rw [if_pos e]; rfl
    | false => exact ⟨rfl, by rw [h.nf hf]; rfl⟩
  unfold splitP
  rw [hs1, hA.1, hA.2.1, hA.2.2, hpath.1, hpath.2, hQ.1, hQ.2.1, hQ.2.2, hF.1, hF.2, hsch]
  have : p.text.take p.sc.length = p.sc := by rw [htx, List.take_left]
  rw [this]
/-! What Clean keeps. -/
theorem upB_mem {l : List UInt8} {b : UInt8} (h : b ∈ upB l) : b ∈ l := by
  rw [upB_lastS] at h; exact List.mem_of_mem_take h
theorem upB_gd {l : List UInt8} (h : Gd l) : Gd (upB l) := by
  rcases lastS_spec 47 l with ⟨h0, hn⟩ | ⟨i, hi, h1, h2, h3⟩
  · rw [upB_none l hn]; exact Gd_nil
  · rw [upB_at l i hi h2 h3]
    have e : l = l.take i ++ 47 :: l.drop (i + 1) := by
      have e := List.drop_eq_getElem_cons hi
      rw [h2] at e
      rw [← e, List.take_append_drop]
    rw [e] at h
    exact (h.cut (by decide)).1
theorem gd47 : barB 47 = false := by decide +kernel
/-- A property of the bytes and both lists that every round keeps, by cases. -/
theorem clS_gd {p out : List UInt8} (hp : Gd p) (ho : Gd out) (hne : p ≠ []) : Gd (clS p out).1 ∧ Gd (clS p out).2 := by
  have k : Gd [47] := Gd.cons (by decide) gd47 Gd_nil
  unfold clS
  split
  · rename_i h; obtain ⟨t, rfl⟩ := pre_iff.1 h
    exact ⟨((hp.tail (by decide)).tail (by decide)).tail (by decide), ho⟩
  split
  · rename_i _ h; obtain ⟨t, rfl⟩ := pre_iff.1 h
    exact ⟨(hp.tail (by decide)).tail (by decide), ho⟩
  split
  · rename_i _ _ h; obtain ⟨t, rfl⟩ := pre_iff.1 h
    exact ⟨(hp.tail (by decide)).tail (by decide), ho⟩
  split
  · exact ⟨k, ho⟩
  split
  · rename_i _ _ _ _ h; obtain ⟨t, rfl⟩ := pre_iff.1 h
    exact ⟨((hp.tail (by decide)).tail (by decide)).tail (by decide), upB_gd ho⟩
  split
  · exact ⟨k, upB_gd ho⟩
  split
  · exact ⟨Gd_nil, ho⟩
  · cases p with
    | nil => exact absurd rfl hne
    | cons x q =>
      simp only [List.drop_succ_cons, List.drop_zero, List.take_succ_cons]
      have e : x :: q = (x :: q.take (toS q)) ++ q.drop (toS q) := by rw [List.cons_append, List.take_append_drop]
      have hd := drop_toS q
      rw [e] at hp
      have := hp.cut' (by rcases hd with h | ⟨t, h⟩; exact .inl h; exact .inr ⟨47, t, h, by decide⟩)
      exact ⟨this.2, ho.cat this.1⟩
theorem clN_gd : ∀ (n : Nat) (p out : List UInt8), Gd p → Gd out → Gd (clN n p out)
  | 0, _, _, _, ho => ho
  | n + 1, p, out, hp, ho => by
    simp only [clN]
    split
    · exact ho
    · rename_i h
      have := clS_gd hp ho h
      exact clN_gd n _ _ this.1 this.2
theorem cl_gd {p : List UInt8} (h : Gd p) : Gd (cl p []) := clN_gd _ p [] h Gd_nil
/-- The bytes of a cleaned path. -/
theorem clS_mem {p out : List UInt8} {b : UInt8} : (b ∈ (clS p out).1 → b ∈ p ∨ b = 47) ∧ (b ∈ (clS p out).2 → b ∈ p ∨ b ∈ out ∨ b = 47) := by
  unfold clS
  split
  · exact ⟨fun h => .inl (List.mem_of_mem_drop h), fun h => .inr (.inl h)⟩
  split
  · exact ⟨fun h => .inl (List.mem_of_mem_drop h), fun h => .inr (.inl h)⟩
  split
  · exact ⟨fun h => .inl (List.mem_of_mem_drop h), fun h => .inr (.inl h)⟩
  split
  · exact ⟨fun h => .inr (by simpa using h), fun h => .inr (.inl h)⟩
  split
  · exact ⟨fun h => .inl (List.mem_of_mem_drop h), fun h => .inr (.inl (upB_mem h))⟩
  split
  · exact ⟨fun h => .inr (by simpa using h), fun h => .inr (.inl (upB_mem h))⟩
  split
  · exact ⟨fun h => by simp at h, fun h => .inr (.inl h)⟩
  · exact ⟨fun h => .inl (List.mem_of_mem_drop h), fun h => by
      rcases List.mem_append.1 h with h | h
      · exact .inr (.inl h)
      · exact .inl (List.mem_of_mem_take h)⟩
theorem clN_mem : ∀ (n : Nat) (p out : List UInt8) (b : UInt8), b ∈ clN n p out → b ∈ p ∨ b ∈ out ∨ b = 47
  | 0, _, _, b, h => .inr (.inl h)
  | n + 1, p, out, b, h => by
    simp only [clN] at h
    split at h
    · exact .inr (.inl h)
    · rcases clN_mem n _ _ b h with h1 | h1 | h1
      · rcases clS_mem.1 h1 with h2 | h2
        · exact .inl h2
        · exact .inr (.inr h2)
      · exact clS_mem.2 h1
      · exact .inr (.inr h1)
theorem cl_free {p : List UInt8} (h : ∀ b ∈ p, among [63, 35] b = false) : ∀ b ∈ cl p [], among [63, 35] b = false := fun b hb => by
  rcases clN_mem _ _ _ b hb with h1 | h1 | h1
  · exact h b h1
  · simp at h1
  · subst h1; decide
/-- A path that begins with a slash stays so, or is empty. -/
def Hd (l : List UInt8) : Prop := l = [] ∨ ∃ t, l = 47 :: t
theorem upB_hd {l : List UInt8} (h : Hd l) : Hd (upB l) := by
  rw [upB_lastS]
  rcases h with rfl | ⟨t, rfl⟩
  · left; simp
  · cases e : lastS 47 (47 :: t) - 1 with
    | zero => left; rfl
    | succ k => right; exact ⟨_, rfl⟩
theorem clS_hd {p out : List UInt8} (hp : Hd p) (ho : Hd out) (hne : p ≠ []) : Hd (clS p out).1 ∧ Hd (clS p out).2 := by
  obtain ⟨q, rfl⟩ : ∃ q, p = 47 :: q := by rcases hp with h | h; exact absurd h hne; exact h
  unfold clS
  rw [if_neg (fun h => by obtain ⟨t, e⟩ := pre_iff.1 h; cases e), if_neg (fun h => by obtain ⟨t, e⟩ := pre_iff.1 h; cases e)]
  split
  · rename_i h; obtain ⟨t, e⟩ := pre_iff.1 h
    rw [e]
    exact ⟨.inr ⟨t, rfl⟩, ho⟩
  split
  · exact ⟨.inr ⟨[], rfl⟩, ho⟩
  split
  · rename_i _ _ h; obtain ⟨t, e⟩ := pre_iff.1 h
    rw [e]
    exact ⟨.inr ⟨t, rfl⟩, upB_hd ho⟩
  split
  · exact ⟨.inr ⟨[], rfl⟩, upB_hd ho⟩
  split
  · exact ⟨.inl rfl, ho⟩
  · simp only [List.drop_succ_cons, List.drop_zero, List.take_succ_cons]
    refine ⟨by rcases drop_toS q with h | h; exact .inl h; exact .inr h, ?_⟩
    rcases ho with rfl | ⟨t, rfl⟩
    · exact .inr ⟨_, rfl⟩
    · exact .inr ⟨_, rfl⟩
theorem clN_hd : ∀ (n : Nat) (p out : List UInt8), Hd p → Hd out → Hd (clN n p out)
  | 0, _, _, _, ho => ho
  | n + 1, p, out, hp, ho => by
    simp only [clN]
    split
    · exact ho
    · rename_i h
      have := clS_hd hp ho h
      exact clN_hd n _ _ this.1 this.2
theorem cl_hd {p : List UInt8} (h : Hd p) : Hd (cl p []) := clN_hd _ p [] h (.inl rfl)
end Go.Tk
