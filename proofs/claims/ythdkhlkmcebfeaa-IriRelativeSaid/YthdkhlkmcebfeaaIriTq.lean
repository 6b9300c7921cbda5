/- What a reference means is an IRI, and means itself. Plain. -/
import Derived.Test.YthdkhlkmcebfeaaIriWf
set_option linter.unusedVariables false
set_option linter.unusedSimpArgs false
namespace Go.Tk
open Go Go.RowKit
def GP (p : Prts) : Prop := Gd p.sc ∧ Gd p.au ∧ Gd p.pa ∧ Gd p.qu ∧ Gd p.fr
theorem among_ascii {x : UInt8} (h : among [47, 63, 35] x = true) : x.toNat < 128 := by
  simp [among] at h
  rcases h with rfl | rfl | rfl <;> decide
theorem text_shape (p : Prts) : p.text = (if p.sc = [] then [] else p.sc ++ [58]) ++ ((if p.ha then 47 :: 47 :: p.au else []) ++ (p.pa ++ p.tail)) := by
  show (if p.sc = [] then [] else p.sc ++ [58]) ++ (if p.ha then 47 :: 47 :: p.au else []) ++ p.pa ++ p.tail = _
  simp [List.append_assoc]
theorem path_head {p : Prts} (h : WF p) (ha : p.ha = true) : p.pa ++ p.tail = [] ∨ ∃ x t, p.pa ++ p.tail = x :: t ∧ x.toNat < 128 := by
  rcases h.ha ha with e | ⟨t, e⟩
  · rw [e]
    rcases tail_head p with e2 | ⟨x, t, e2, hx⟩
    · left; rw [e2]; rfl
    · right; exact ⟨x, t, by rw [e2]; rfl, among_ascii (among_up hx)⟩
  · right; exact ⟨47, t ++ p.tail, by rw [e]; rfl, by decide⟩
theorem GP_of_text {p : Prts} (h : WF p) (hg : Gd p.text) : GP p := by
  rw [text_shape] at hg
  obtain ⟨g1, g2⟩ : Gd p.sc ∧ Gd ((if p.ha then 47 :: 47 :: p.au else []) ++ (p.pa ++ p.tail)) := by
    by_cases hs : p.sc = []
    · rw [if_pos hs] at hg; rw [hs]; exact ⟨Gd_nil, hg⟩
    · rw [if_neg hs, List.append_assoc] at hg
      have := Gd.cut (a := p.sc) (x := 58) (by decide) hg
      exact ⟨this.1, this.2.tail (by decide)⟩
  obtain ⟨g3, g4⟩ : Gd p.au ∧ Gd (p.pa ++ p.tail) := by
    cases ha : p.ha with
    | true =>
      rw [ha] at g2
      exact Gd.cut' ((Gd.tail (x := 47) (by decide) g2).tail (x := 47) (by decide)) (path_head h ha)
    | false =>
      rw [ha] at g2
      rw [h.na ha]
      exact ⟨Gd_nil, g2⟩
  obtain ⟨g5, g6⟩ := g4.cut' (by
    rcases tail_head p with e2 | ⟨x, t, e2, hx⟩
    · exact .inl e2
    · exact .inr ⟨x, t, e2, among_ascii (among_up hx)⟩)
  have htl : p.tail = (if p.hq then 63 :: p.qu else []) ++ (if p.hf then 35 :: p.fr else []) := rfl
  rw [htl] at g6
  obtain ⟨g7, g8⟩ : Gd p.qu ∧ Gd (if p.hf then 35 :: p.fr else []) := by
    cases hq : p.hq with
    | true =>
      rw [hq] at g6
      refine Gd.cut' (Gd.tail (x := 63) (by decide) g6) ?_
      cases p.hf with
      | true => exact .inr ⟨35, p.fr, rfl, by decide⟩
      | false => exact .inl rfl
    | false =>
      rw [hq] at g6
      rw [h.nq hq]
      exact ⟨Gd_nil, g6⟩
  refine ⟨g1, g3, g5, g7, ?_⟩
  cases hf : p.hf with
  | true => rw [hf] at g8; exact Gd.tail (x := 35) (by decide) g8
  | false => rw [h.nf hf]; exact Gd_nil
theorem gd58 : barB 58 = false := by decide +kernel
theorem gd63 : barB 63 = false := by decide +kernel
theorem gd35 : barB 35 = false := by decide +kernel
theorem GP_text {p : Prts} (h : GP p) : Gd p.text := by
  obtain ⟨h1, h2, h3, h4, h5⟩ := h
  rw [text_shape]
  have htl : p.tail = (if p.hq then 63 :: p.qu else []) ++ (if p.hf then 35 :: p.fr else []) := rfl
  refine Gd.cat ?_ (Gd.cat ?_ (Gd.cat h3 ?_))
  · split
    · exact Gd_nil
    · exact h1.cat (Gd.cons (by decide) gd58 Gd_nil)
  · split
    · exact Gd.cons (by decide) gd47 (Gd.cons (by decide) gd47 h2)
    · exact Gd_nil
  · rw [htl]
    refine Gd.cat ?_ ?_
    · split
      · exact Gd.cons (by decide) gd63 h4
      · exact Gd_nil
    · split
      · exact Gd.cons (by decide) gd35 h5
      · exact Gd_nil
theorem GP_split {l : List UInt8} (h : Gd l) : GP (splitP l) := GP_of_text (WF_split l).1 (by rw [text_splitP]; exact h)
theorem abv_mem {b : Prts} {x : UInt8} (h : x ∈ abv b) : x ∈ b.pa ∨ x = 47 := by
  unfold abv at h
  split at h
  · right; simpa using h
  · exact .inl (List.mem_of_mem_take h)
theorem abv_gd {b : Prts} (h : Gd b.pa) : Gd (abv b) := by
  unfold abv
  split
  · exact Gd.cons (by decide) gd47 Gd_nil
  · rcases lastS_spec 47 b.pa with ⟨h0, hn⟩ | ⟨i, hi, h1, h2, h3⟩
    · rw [h0]; exact Gd_nil
    · rw [h1, List.take_succ_eq_append_getElem hi, h2]
      have e : b.pa = b.pa.take i ++ 47 :: b.pa.drop (i + 1) := by
        have e := List.drop_eq_getElem_cons hi
        rw [h2] at e
        rw [← e, List.take_append_drop]
      rw [e] at h
      exact (h.cut (by decide)).1.cat (Gd.cons (by decide) gd47 Gd_nil)
theorem abv_hd {b : Prts} (h : WF b) (ha : b.ha = true) (x : List UInt8) : Hd (abv b ++ x) := by
  unfold abv
  split
  · right; exact ⟨x, rfl⟩
  · rename_i hc
    rcases h.ha ha with e | ⟨t, e⟩
    · rw [ha, e] at hc; exact absurd rfl hc
    · rw [e]
      have : ∃ k, lastS 47 (47 :: t) = k + 1 := by
        simp only [lastS]
        split
        · exact ⟨0, rfl⟩
        · exact ⟨_, rfl⟩
      obtain ⟨k, hk⟩ := this
      rw [hk]
      exact .inr ⟨_, rfl⟩
theorem head_cons {l : List UInt8} (h : l.head? = some 47) : ∃ t, l = 47 :: t := by
  cases l with
  | nil => cases h
  | cons x t => simp at h; exact ⟨t, by rw [h]⟩
/-- The parts of what a reference means at a base. -/
theorem tgt_laws {b r : Prts} (hb : WF b) (hr : WF r) (gb : GP b) (gr : GP r) (hs : b.sc ≠ []) :
    WF (targetP b r) ∧ GP (targetP b r) ∧ (targetP b r).sc ≠ [] ∧ (dotsB (targetP b r).pa = true → r.pa = [] ∧ (targetP b r).pa = b.pa ∧ (targetP b r).ha = b.ha) := by
  obtain ⟨b1, b2, b3, b4, b5⟩ := gb
  obtain ⟨r1, r2, r3, r4, r5⟩ := gr
  have hscb : b.sc = [] ∨ (b.sc ≠ [] ∧ Scm b.sc) := hb.sc
  have nod : ∀ l : List UInt8, dotsB (cl l []) = true → False := fun l h => by rw [cl_dots] at h; cases h
  unfold targetP
  by_cases h0 : r.sc.isEmpty = false
  · rw [if_pos h0]
    refine ⟨⟨hr.au, cl_free hr.pa, hr.qu, fun h => cl_hd (hr.ha h), hr.na, hr.nq, hr.nf, hr.sc⟩, ⟨r1, r2, cl_gd r3, r4, r5⟩, ?_, fun h => (nod _ h).elim⟩
    intro e
    have e' : r.sc = [] := e
    rw [e'] at h0; cases h0
  rw [if_neg h0]
  by_cases h1 : r.ha = true
  · rw [if_pos h1]
    exact ⟨⟨hr.au, cl_free hr.pa, hr.qu, fun h => cl_hd (hr.ha h), hr.na, hr.nq, hr.nf, hscb⟩, ⟨b1, r2, cl_gd r3, r4, r5⟩, hs, fun h => (nod _ h).elim⟩
  rw [if_neg h1]
  by_cases h2 : r.pa.isEmpty = true
  · rw [if_pos h2]
    have h2' : r.pa = [] := by simpa using h2
    by_cases h3 : r.hq = true
    · rw [if_pos h3]
      exact ⟨⟨hb.au, hb.pa, hr.qu, hb.ha, hb.na, hr.nq, hr.nf, hscb⟩, ⟨b1, b2, b3, r4, r5⟩, hs, fun _ => ⟨h2', rfl, rfl⟩⟩
    · rw [if_neg h3]
      exact ⟨⟨hb.au, hb.pa, hb.qu, hb.ha, hb.na, hb.nq, hr.nf, hscb⟩, ⟨b1, b2, b3, b4, r5⟩, hs, fun _ => ⟨h2', rfl, rfl⟩⟩
  · rw [if_neg h2]
    have hp : (∀ x ∈ tgPath b r, among [63, 35] x = false) ∧ Gd (tgPath b r) ∧ (b.ha = true → Hd (tgPath b r)) ∧ (dotsB (tgPath b r) = true → False) := by
      unfold tgPath
      split
      · rename_i h47
        obtain ⟨t, e⟩ := head_cons h47
        exact ⟨cl_free hr.pa, cl_gd r3, fun _ => cl_hd (.inr ⟨t, e⟩), nod _⟩
      · refine ⟨cl_free fun x hx => ?_, cl_gd ((abv_gd b3).cat r3), fun h => cl_hd (abv_hd hb h _), nod _⟩
        rcases List.mem_append.1 hx with h | h
        · rcases abv_mem h with h | h
          · exact hb.pa x h
          · subst h; decide
        · exact hr.pa x h
    exact ⟨⟨hb.au, hp.1, hr.qu, hp.2.2.1, hb.na, hr.nq, hr.nf, hscb⟩, ⟨b1, b2, hp.2.1, r4, r5⟩, hs, fun h => (hp.2.2.2 h).elim⟩
/-- The parts of a text that was put together. -/
theorem again_parts {t : Prts} (h : WF t) (hs : t.sc ≠ []) : (splitP t.text).sc = t.sc ∧ (dotsB t.pa = false → dotsB (splitP t.text).pa = false) ∧ (Nsl t → splitP t.text = t) := by
  by_cases hn : Nsl t
  · have e := split_text h hn hs
    rw [e]
    exact ⟨rfl, fun h => h, fun _ => rfl⟩
  · have hx : t.ha = false ∧ ∃ u, t.pa = 47 :: 47 :: u := by
      apply Classical.byContradiction
      intro hc
      apply hn
      intro ha u e
      exact hc ⟨ha, u, e⟩
    obtain ⟨ha, u, hu⟩ := hx
    obtain ⟨k, hk⟩ : ∃ k, k = unt (among [47, 63, 35]) u := ⟨_, rfl⟩
    obtain ⟨p, hp⟩ : ∃ p : Prts, p = { t with ha := true, au := u.take k, pa := u.drop k } := ⟨_, rfl⟩
    have hsub : ∀ x ∈ u, among [63, 35] x = false := fun x hx => h.pa x (by rw [hu]; simp [hx])
    have hdk : u.drop k = [] ∨ ∃ v, u.drop k = 47 :: v := by
      rcases unt_drop (among [47, 63, 35]) u with e | ⟨x, v, e, hx⟩
      · left; rw [hk]; exact e
      · right
        rw [hk]
        have hxu : x ∈ u := List.mem_of_mem_drop (by rw [e]; simp)
        have := hsub x hxu
        refine ⟨v, ?_⟩
        rw [e]
        simp [among] at hx this
        rcases hx with rfl | rfl | rfl
        · rfl
        · exact absurd rfl this.1
        · exact absurd rfl this.2
    have htx : p.text = t.text := by
      rw [text_shape, text_shape, hp, ha, hu]
      simp only [if_true, Bool.false_eq_true, if_false, List.nil_append, List.cons_append]
      have : ({ t with ha := true, au := u.take k, pa := u.drop k } : Prts).tail = t.tail := rfl
      rw [this, ← List.append_assoc (u.take k), List.take_append_drop]
    have hw : WF p := by
      rw [hp]
      exact ⟨by rw [hk]; exact unt_free _ _, fun x hx => hsub x (List.mem_of_mem_drop hx), h.qu, fun _ => hdk, (fun e => by cases e), h.nq, h.nf, h.sc⟩
    have hnp : Nsl p := by rw [hp]; intro h; cases h
    have e := split_text hw hnp (by rw [hp]; exact hs)
    rw [← htx, e, hp]
    refine ⟨rfl, fun hd => ?_, fun h => absurd h hn⟩
    rw [hu, dots_slash, dots_slash] at hd
    show dotsB (u.drop k) = false
    rcases hdk with e1 | ⟨v, e1⟩
    · rw [e1]; exact dots_nil
    · rw [e1]
      refine dots_piece (u.take k) v ?_
      rw [← e1, List.take_append_drop]; exact hd
theorem sch_text {t : Prts} (h : WF t) (hs : t.sc ≠ []) : sch t.text ≠ 0 := by
  have hscm : Scm t.sc := by rcases h.sc with e | e; exact absurd e hs; exact e.2
  rw [text_shape, if_neg hs, List.append_assoc, List.singleton_append, hscm]
  intro e; exact hs (List.eq_nil_of_length_eq_zero e)
theorem irE_iff (l : List UInt8) : irE l = 0 ↔ refE l = 0 ∧ sch l ≠ 0 := by
  unfold irE
  constructor
  · intro h
    by_cases hr : refE l = 0
    · rw [if_pos hr] at h
      by_cases hs : sch l = 0
      · rw [if_pos hs] at h; simp at h
      · exact ⟨hr, hs⟩
    · rw [if_neg hr] at h; exact absurd h hr
  · rintro ⟨h1, h2⟩
    rw [if_pos h1, if_neg h2]
theorem split_sc {l : List UInt8} (h : sch l ≠ 0) : (splitP l).sc ≠ [] := by
  intro e
  have hl := sch_le l
  have := congrArg List.length e
  rw [show (splitP l).sc = l.take (sch l) from rfl, List.length_take, List.length_nil] at this
  omega
/-- **What a reference means is an IRI**; its path has segments of dots only where it is the base's own; without them it means itself at any base. -/
theorem resolved {base ref : List UInt8} (hb : irE base = 0) (hr : refE ref = 0) (hf : (resE base ref).2 = 0) :
    (resE base ref).1 = (targetP (splitP base) (splitP ref)).text ∧ irE (resE base ref).1 = 0 ∧
      (dotsB (splitP (resE base ref).1).pa = true → (splitP ref).pa = [] ∧ dotsB (splitP base).pa = true) ∧
      (dotsB (splitP (resE base ref).1).pa = false → ∀ other, irE other = 0 → resE other (resE base ref).1 = ((resE base ref).1, 0)) := by
  obtain ⟨b1, b2⟩ := (irE_iff _).1 hb
  obtain ⟨b3, b4⟩ := (refE_iff _).1 b1
  obtain ⟨r3, r4⟩ := (refE_iff _).1 hr
  obtain ⟨t1, t2, t3, t4⟩ := tgt_laws (WF_split base).1 (WF_split ref).1 (GP_split b4) (GP_split r4) (split_sc b2)
  have hE : resE base ref = if 65536 < (targetP (splitP base) (splitP ref)).text.length then ([], 2) else ((targetP (splitP base) (splitP ref)).text, 0) := by
    unfold resE; rw [if_neg (by simp [hb]), if_neg (by simp [hr])]
  generalize targetP (splitP base) (splitP ref) = t at *
  by_cases hl : 65536 < t.text.length
  · rw [hE, if_pos hl] at hf; simp at hf
  have hE2 : resE base ref = (t.text, 0) := by rw [hE, if_neg hl]
  rw [hE2]
  simp only
  have hre : refE t.text = 0 := (refE_iff _).2 ⟨by omega, GP_text t2⟩
  obtain ⟨a1, a2, a3⟩ := again_parts t1 t3
  refine ⟨trivial, (irE_iff _).2 ⟨hre, sch_text t1 t3⟩, fun hd => ?_, fun hd other ho => ?_⟩
  · have hdt : dotsB t.pa = true := by
      cases e : dotsB t.pa with
      | true => rfl
      | false => rw [a2 e] at hd; cases hd
    obtain ⟨c1, c2, c3⟩ := t4 hdt
    exact ⟨c1, by rw [← c2]; exact hdt⟩
  · have hp : (splitP t.text).sc.isEmpty = false := by rw [a1]; cases h : t.sc with
      | nil => exact absurd h t3
      | cons _ _ => rfl
    unfold resE
    have htg : targetP (splitP other) (splitP t.text) = splitP t.text := by
      unfold targetP
      rw [if_pos hp, cl_keep hd]
    rw [if_neg (by simp [ho]), if_neg (by simp [hre]), htg, text_splitP, if_neg hl]
/-- With the empty reference: the base without its fragment. -/
def ownP (base : List UInt8) : Prts := { splitP base with hf := false, fr := [] }
theorem own_laws {base : List UInt8} (hb : irE base = 0) : resE base [] = ((ownP base).text, 0) ∧ joinE (ownP base) = ((ownP base).text, 0) ∧ irE (ownP base).text = 0 ∧ (ownP base).text.length ≤ base.length := by
  obtain ⟨b1, b2⟩ := (irE_iff _).1 hb
  obtain ⟨b3, b4⟩ := (refE_iff _).1 b1
  obtain ⟨w1, w2⟩ := WF_split base
  have hs := split_sc b2
  have g := GP_split b4
  have hlen : (ownP base).text.length ≤ base.length := by
    have e := text_splitP base
    have e2 : base.length = (splitP base).text.length := by rw [e]
    rw [e2, text_shape, text_shape]
    have h1 : (ownP base).tail.length ≤ (splitP base).tail.length := by
      show (tailL (splitP base).qu [] (splitP base).hq false).length ≤ (tailL (splitP base).qu (splitP base).fr (splitP base).hq (splitP base).hf).length
      unfold tailL
      simp
    simp only [List.length_append]
    show _ + (_ + ((splitP base).pa.length + (ownP base).tail.length)) ≤ _
    have h2 : (if (ownP base).sc = [] then ([] : List UInt8) else (ownP base).sc ++ [58]).length = (if (splitP base).sc = [] then ([] : List UInt8) else (splitP base).sc ++ [58]).length := rfl
    have h3 : (if (ownP base).ha = true then 47 :: 47 :: (ownP base).au else ([] : List UInt8)).length = (if (splitP base).ha = true then 47 :: 47 :: (splitP base).au else ([] : List UInt8)).length := rfl
    omega
  have w : WF (ownP base) := ⟨w1.au, w1.pa, w1.qu, w1.ha, w1.na, w1.nq, fun _ => rfl, w1.sc⟩
  have n : Nsl (ownP base) := w2
  have gp : GP (ownP base) := ⟨g.1, g.2.1, g.2.2.1, g.2.2.2.1, Gd_nil⟩
  have hre : refE (ownP base).text = 0 := (refE_iff _).2 ⟨by omega, GP_text gp⟩
  have hsp := split_text w n hs
  have htg : targetP (splitP base) (splitP []) = ownP base := rfl
  refine ⟨?_, ?_, (irE_iff _).2 ⟨hre, sch_text w hs⟩, hlen⟩
  · unfold resE
    rw [if_neg (by simp [hb]), if_neg (by decide), htg, if_neg (by omega)]
  · have hbad : (ownP base).bad = false := by
      unfold Prts.bad
      have h1 : ((!(ownP base).ha) && !(ownP base).au.isEmpty) = false := by
        cases h : (ownP base).ha with
        | true => rfl
        | false => rw [w.na h]; rfl
      have h2 : ((!(ownP base).hq) && !(ownP base).qu.isEmpty) = false := by
        cases h : (ownP base).hq with
        | true => rfl
        | false => rw [w.nq h]; rfl
      rw [h1, h2]; rfl
    unfold joinE
    rw [if_neg (by simp [hbad]), if_pos hre, hsp, if_pos (Prts.eqB_refl _)]
end Go.Tk
