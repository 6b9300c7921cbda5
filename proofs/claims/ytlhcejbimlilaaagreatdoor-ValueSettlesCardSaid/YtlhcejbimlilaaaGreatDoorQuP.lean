/- Regions that draw their order: the first n operations in whatever order, each quiet; then a forced tail, in an order of its own (not the text's). -/
import Derived.Test.YtlhcejbimlilaaaGreatDoorQuL
import Derived.Test.YtlhcejbimlilaaaGreatDoorHeD
set_option linter.unusedVariables false
set_option linter.unusedSimpArgs false
namespace Go.Tk
open Go Go.RowKit
section
variable {P : Program} {ops : Array Oper} {md : Region.Mode} {C : World → Prop}
def sinkP (md : Region.Mode) (ops : Array Oper) (n p : Nat) : Bool :=
  (List.range n).all fun i => (List.range n).any (fun j => decide (i < j) && Region.waitsFor md ops j i) || Region.waitsFor md ops p i
def chainP (md : Region.Mode) (ops : Array Oper) (n p : Nat) : Bool :=
  (List.range ops.size).all fun t => decide (t < n) || decide (t = p) || (List.range ops.size).any fun u => decide (n ≤ u) && Region.waitsFor md ops t u
def permB (md : Region.Mode) (ops : Array Oper) : List Nat → Array Bool → Bool
  | [], listed => (Region.ready md ops listed).isEmpty
  | p :: ps, listed => decide (Region.ready md ops listed = [p]) && permB md ops ps (listed.setIfInBounds p true)
def headP (md : Region.Mode) (ops : Array Oper) (ps : List Nat) : Nat → Nat → Array Bool → Bool
  | 0, _, listed => permB md ops ps listed
  | f + 1, k, listed => (Region.ready md ops listed).contains k && Region.free md ops listed k && headP md ops ps f (k + 1) (listed.setIfInBounds k true)
theorem tail_waitsP {n p : Nat} {listed : Array Bool} (hs : sinkP md ops n p = true) (hc : chainP md ops n p = true) (inv : HeadInv md ops n listed) :
    ∀ (d i : Nat), n - i = d → i < n → listed.getD i true = false → ∀ t, n ≤ t → t ∉ Region.ready md ops listed := by
  intro d
  induction d using Nat.strongRecOn with
  | _ d ih =>
    intro i hd hi hun t ht hr
    obtain ⟨_, ot, hot, hall⟩ := mem_ready.1 hr
    have htlt : t < ops.size := (Array.getElem?_eq_some_iff.1 hot).1
    by_cases htn : t = p
    · subst htn
      have h1 := List.all_eq_true.1 hs i (List.mem_range.2 hi)
      rcases Bool.or_eq_true _ _ ▸ h1 with h1 | h1
      · obtain ⟨j, hj, hj2⟩ := List.any_eq_true.1 h1
        simp only [Bool.and_eq_true, decide_eq_true_eq] at hj2
        obtain ⟨oj, hoj, e, he, hb, hon⟩ := Region.waitsFor_spec hj2.2
        have hjle : j < n := List.mem_range.1 hj
        cases hl : listed.getD j false with
        | true =>
          have h2 := inv.closed j oj hoj hl e he hb
          rw [hon, getD_both hun] at h2
          cases h2
        | false =>
          have hjs : j < listed.size := by rw [inv.size]; exact (Array.getElem?_eq_some_iff.1 hoj).1
          exact ih (n - j) (by omega) j rfl hjle (getD_in hjs hl) t ht hr
      · obtain ⟨oj, hoj, e, he, hb, hon⟩ := Region.waitsFor_spec h1
        have : oj = ot := Option.some.inj (hoj.symm.trans hot)
        subst this
        have h2 := hall e he hb
        rw [hon, getD_both hun] at h2
        cases h2
    · have h1 := List.all_eq_true.1 hc t (List.mem_range.2 htlt)
      simp only [Bool.or_eq_true, decide_eq_true_eq] at h1
      rcases h1 with (h1 | h1) | h1
      · omega
      · exact htn h1
      · obtain ⟨u, hu, hu2⟩ := List.any_eq_true.1 h1
        simp only [Bool.and_eq_true, decide_eq_true_eq] at hu2
        obtain ⟨oj, hoj, e, he, hb, hon⟩ := Region.waitsFor_spec hu2.2
        have : oj = ot := Option.some.inj (hoj.symm.trans hot)
        subst this
        have h2 := hall e he hb
        rw [hon, getD_both (inv.tail u hu2.1 (List.mem_range.1 hu))] at h2
        cases h2
theorem wpAnyLQ_firstP {n i : Nat} {oi : Oper} {v : Value} {L : Array Bool → Act → Prop} (hi : ops[i]? = some oi) (hsel : ∀ (j : Nat) (o : Oper) cs b, ops[j]? = some o → o.op ≠ .select cs b)
    (hW : ∀ listed, HeadInv md ops n listed → ∀ i, i < n → listed.getD i true = false → ∀ t, n ≤ t → t ∉ Region.ready md ops listed) (hin : i < n)
    (hdone : ∀ listed a, L listed a → ∀ j ∈ Region.ready md ops listed, n ≤ j) :
    ∀ (f : Nat) (listed : Array Bool) (a : Act), HeadInv md ops n listed →
      (∀ j oj, ops[j]? = some oj → j ≠ i → listed.getD j true = false → (∀ e ∈ oj.after, Region.binds md e = true → e.on ≠ i) → oi.apart ops oj = true) →
      i ∈ Region.ready md ops listed → YieldsIn P ops C oi v a →
      wpAnyLQ P md ops C n L f (listed.setIfInBounds i true) (a.put oi.dst v) → wpAnyLQ P md ops C n L (f + 1) listed a := by
  intro f
  induction f with
  | zero =>
    intro listed a inv _ hr hy H
    have hun := (mem_ready.1 hr).1
    refine ⟨fun h => (by rw [h] at hr; cases hr), fun j hj => ?_⟩
    have hjn : j < n := by
      rcases Nat.lt_or_ge j n with h | h
      · exact h
      · exact absurd hj (hW listed inv i hin hun j h)
    refine ⟨hjn, ?_⟩
    by_cases hji : j = i
    · subst hji; exact hy.qOp hi H
    · have := hdone _ _ H j (ready_mono hj hji)
      omega
  | succ f ih =>
    intro listed a inv hfree hr hy H
    have hun := (mem_ready.1 hr).1
    refine ⟨fun h => (by rw [h] at hr; cases hr), fun j hj => ?_⟩
    have hjn : j < n := by
      rcases Nat.lt_or_ge j n with h | h
      · exact h
      · exact absurd hj (hW listed inv i hin hun j h)
    refine ⟨hjn, ?_⟩
    by_cases hji : j = i
    · subst hji; exact hy.qOp hi H
    · have h1 := (H.2 j (ready_mono hj hji)).2
      obtain ⟨hjun, oj, hoj, hall⟩ := mem_ready.1 hj
      have hnot : ∀ e ∈ oj.after, Region.binds md e = true → e.on ≠ i := fun e he hb heq => by
        have h1 := hall e he hb
        rw [heq, getD_both hun] at h1
        cases h1
      have h2 := qOp_put hoj (hfree j oj hoj hji hjun hnot) (fun cs b => hsel i oi cs b hi) (fun cs b => hsel j oj cs b hoj) hy h1
      have hfree' : ∀ k ok, ops[k]? = some ok → k ≠ i → (listed.setIfInBounds j true).getD k true = false →
          (∀ e ∈ ok.after, Region.binds md e = true → e.on ≠ i) → oi.apart ops ok = true := fun k ok hk hki hun hno => by
        refine hfree k ok hk hki ?_ hno
        by_cases hjk : j = k
        · subst hjk; exact hjun
        · rw [getD_set_ne true hjk] at hun; exact hun
      refine qOp_mono (fun a' h3 => ih (listed.setIfInBounds j true) a' (inv.set hj hjn) hfree' (ready_mono hr (Ne.symm hji)) h3.1 ?_) h2
      rw [Array.setIfInBounds_comm _ _ hji]
      exact h3.2
theorem permB_ready {n : Nat} : ∀ (ps : List Nat) (listed : Array Bool), (∀ p ∈ ps, n ≤ p) → permB md ops ps listed = true → ∀ j ∈ Region.ready md ops listed, n ≤ j
  | [], listed, _, h => fun j hj => by simp only [permB, List.isEmpty_iff] at h; rw [h] at hj; cases hj
  | p :: ps, listed, hp, h => fun j hj => by
    simp only [permB, Bool.and_eq_true, decide_eq_true_eq] at h
    rw [h.1] at hj
    have : j = p := by simpa using hj
    rw [this]
    exact hp p (by simp)
theorem wpAnyLQ_perm {n : Nat} {ps : List Nat} {Lq : Act → Prop} (hsel : Region.noSelect ops = true)
    (hW : ∀ listed, HeadInv md ops n listed → ∀ i, i < n → listed.getD i true = false → ∀ t, n ≤ t → t ∉ Region.ready md ops listed) (hps : ∀ p ∈ ps, n ≤ p) :
    ∀ (l : List Oper) (k : Nat) (listed : Array Bool) (a : Act), (∀ j, j < l.length → l[j]? = ops[k + j]?) → k + l.length = n → HeadInv md ops n listed →
    headP md ops ps l.length k listed = true → wpQuiet P ops C Lq l a →
    wpAnyLQ P md ops C n (fun listed' a' => permB md ops ps listed' = true ∧ Lq a') l.length listed a
  | [], k, listed, a, _, hk, _, hB, h => ⟨by simpa [headP] using hB, h⟩
  | o :: l, k, listed, a, hl, hk, inv, hB, h => by
    have h0 : ops[k]? = some o := by simpa using (hl 0 (by simp)).symm
    simp only [List.length_cons, headP, Bool.and_eq_true] at hB
    obtain ⟨⟨hr, hf⟩, hB'⟩ := hB
    have hkn : k < n := by simp only [List.length_cons] at hk; omega
    have hr' : k ∈ Region.ready md ops listed := by simpa using hr
    have hst : qOp P ops C k (wpQuiet P ops C Lq l) a := by unfold qOp; simp only [h0]; exact h
    obtain ⟨v, hy, hK⟩ := yieldsIn_of_qOp h0 hst
    exact wpAnyLQ_firstP h0 (Region.noSelect_spec hsel) hW hkn (fun listed' a' hL => permB_ready ps _ hps hL.1) l.length listed a inv (Region.free_spec h0 hf) hr' hy
      (wpAnyLQ_perm hsel hW hps l (k + 1) _ _ (fun j hj => by have := hl (j + 1) (by simp; omega); simpa [Nat.add_assoc, Nat.add_comm 1 j] using this) (by simp only [List.length_cons] at hk; omega) (inv.set hr' hkn) hB' hK)
theorem wpAny_of_perm {Q' : Exit → Act → World → Prop} : ∀ (ps : List Nat) (l : List Oper) (listed : Array Bool) (a : Act) (w : World), l.map some = ps.map (ops[·]?) →
    permB md ops ps listed = true → wpList P ops Q' l a w → wpAny P md ops Q' ps.length listed a w
  | [], [], _, _, _, _, hB, h => ⟨by simpa [permB] using hB, h⟩
  | p :: ps, o :: l, listed, a, w, hl, hB, h => by
    simp only [List.map_cons, List.cons.injEq] at hl
    simp only [permB, Bool.and_eq_true, decide_eq_true_eq] at hB
    refine ⟨fun h1 => (by rw [hB.1] at h1; cases h1), fun i hi => ?_⟩
    rw [hB.1] at hi
    have hik : i = p := by simpa using hi
    subst hik
    have hw : wpOp P ops Q' i (wpList P ops Q' l) a w := by unfold wpOp; simp only [← hl.1]; exact h
    exact wpOp_mono (fun a' w' h' => wpAny_of_perm ps l _ a' w' hl.2 hB.2 h') hw
  | [], _ :: _, _, _, _, hl, _, _ => by simp at hl
  | _ :: _, [], _, _, _, hl, _, _ => by simp at hl
/-- Operations picked from a list, by their places. -/
inductive Picks (l : List Oper) : List Nat → List Oper → Prop
  | nil : Picks l [] []
  | cons {p : Nat} {o : Oper} {ps : List Nat} {t : List Oper} (h : l[p]? = some o) (hp : Picks l ps t) : Picks l (p :: ps) (o :: t)
theorem Picks.map {l : List Oper} {ps : List Nat} {t : List Oper} (h : Picks l ps t) : t.map some = ps.map (l.toArray[·]?) := by
  induction h with
  | nil => rfl
  | cons h _ ih => rw [List.map_cons, List.map_cons, ih]; simp [h]
def tailPB (md : Region.Mode) (ops : Array Oper) (n : Nat) (ps : List Nat) : Bool :=
  Region.noSelect ops && decide (n < ops.size) && sinkP md ops n (ps.headD 0) && chainP md ops n (ps.headD 0) && headP md ops ps n 0 (Array.replicate ops.size false) && ps.all (fun p => decide (n ≤ p)) && decide (n + ps.length = ops.size)
/-- The first n operations in whatever order, each quiet in the class of worlds that keep what was there; then the operations ps in this order. -/
theorem wp_region_lw_perm {id : Nat} {Q : Exit → Act → World → Prop} {a : Act} {w : World} {l : List Oper} (n : Nat) (ps : List Nat) (tl : List Oper) (hm : P.follows .mixedOrders = true) (hB : tailPB .any l.toArray n ps = true)
    (hpk : Picks l ps tl)
    (h : wpQuiet P l.toArray (fun w' => ∃ x : Lw w, w' = x.to) (fun a' => ∀ x : Lw w, wpList P l.toArray Q tl a' x.to) (l.take n) a) : (Code.region id l.toArray true).wp P Q a w := by
  simp only [tailPB, Bool.and_eq_true, decide_eq_true_eq] at hB
  obtain ⟨⟨⟨⟨⟨⟨hsel, hn⟩, hs⟩, hc⟩, hlex⟩, hps⟩, hlen⟩ := hB
  have hps' : ∀ p ∈ ps, n ≤ p := fun p hp => by simpa using List.all_eq_true.1 hps p hp
  have hn' : n < l.length := by simpa using hn
  have htl := hpk.map
  have htk : (l.take n).length = n := by simp; omega
  have inv0 : HeadInv .any l.toArray n (Array.replicate l.toArray.size false) :=
    ⟨by simp, fun j oj _ hl => (by rw [getD_replicate_false] at hl; cases hl), fun t _ ht => getD_in (by simpa using ht) (getD_replicate_false _ _)⟩
  have h2 : wpQuiet P l.toArray (fun w' => ∃ x : Lw w, w' = x.to) (fun a' => ∀ w', (∃ x : Lw w, w' = x.to) → wpList P l.toArray Q tl a' w') (l.take n) a := wpQuiet_mono (fun a h w' hx => hx.elim fun x hx => hx ▸ h x) _ _ h
  have H := wpAnyLQ_perm (md := .any) hsel (fun listed inv i hi hun t ht => tail_waitsP hs hc inv _ i rfl hi hun t ht) hps' (l.take n) 0 _ a (fun j hj => by
    have hj' : j < n := by rw [htk] at hj; exact hj
    simp [hj']) (by simpa using htk) inv0 (by rw [htk]; exact hlex) h2
  refine wp_region_any hm ?_
  have := wpAny_of_headQ (Q' := Q) (g := ps.length) (fun listed a' w' hw' hL => wpAny_of_perm ps tl listed a' w' htl hL.1 (hL.2 w' hw')) _ _ _ w.drew ⟨⟨w.drew, below_drewN (Below.refl _ _) 1⟩, rfl⟩ H
  rw [htk, hlen] at this
  exact this
end
end Go.Tk
namespace Go.Tk
open Go Go.RowKit
section
variable {P : Program} {ops : Array Oper} {Q : Exit → Act → World → Prop} {md : Region.Mode} {S : World → Prop}
/-- An operation that yields one value wherever S holds; it may have a guard. -/
theorem wh_takeW (i d : Nat) (v : Value) {o : Oper} {fuel : Nat} {listed : Array Bool} {a : Act} {w : World} (hi : ops[i]? = some o) (hd : o.dst = some d) (hw : Region.wanted o (yielded ops a.tmps) = true)
    (hs : Region.noSelect ops = true) (hf : Region.free md ops listed i = true) (hr : (Region.ready md ops listed).contains i = true)
    (hQ : ∀ c a a' w, Q (.panic c) a' w → Q (.panic c) a w) (hS : S w)
    (hy : ∀ w', S w' → (execOp a.eval o).run P w' = .ok (.value v) w')
    (h : wpAnyH P md ops Q S fuel (listed.setIfInBounds i true) ⟨a.tmps.setIfInBounds d v, a.defers⟩ w) : wpAnyH P md ops Q S (fuel + 1) listed a w :=
  wpAnyH_take hi hs hf hr (fun c a w => hQ c a _ w) (.inl ⟨hw, hy⟩) hS (by rw [hd]; exact h)
/-- An operation whose guard shuts it out. -/
theorem wh_takeU (i d : Nat) {o : Oper} {fuel : Nat} {listed : Array Bool} {a : Act} {w : World} (hi : ops[i]? = some o) (hd : o.dst = some d) (hw : Region.wanted o (yielded ops a.tmps) = false)
    (hs : Region.noSelect ops = true) (hf : Region.free md ops listed i = true) (hr : (Region.ready md ops listed).contains i = true)
    (hQ : ∀ c a a' w, Q (.panic c) a' w → Q (.panic c) a w) (hS : S w)
    (h : wpAnyH P md ops Q S fuel (listed.setIfInBounds i true) ⟨a.tmps.setIfInBounds d undef, a.defers⟩ w) : wpAnyH P md ops Q S (fuel + 1) listed a w :=
  wpAnyH_take hi hs hf hr (fun c a w => hQ c a _ w) (.inr ⟨hw, rfl⟩) hS (by rw [hd]; exact h)
/-- A call with a guard that lets it in, when it alone may come. -/
theorem wh_callW (i d : Nat) (v : Value) (R : World → Prop) {o : Oper} {fuel : Nat} {listed : Array Bool} {a : Act} {w : World} {f : FuncId} {args : Array Value} (hi : ops[i]? = some o) (hd : o.dst = some d) (hw : Region.wanted o (yielded ops a.tmps) = true) (hr : Region.ready md ops listed = [i])
    (he : (execOp a.eval o).run P w = .ok (.enter f args) w) (hc : Calls P f args w fun e w' => e = .returned v ∧ R w') (hS : ∀ w', R w' → S w')
    (h : ∀ w', R w' → wpAnyH P md ops Q S fuel (listed.setIfInBounds i true) ⟨a.tmps.setIfInBounds d v, a.defers⟩ w') : wpAnyH P md ops Q S (fuel + 1) listed a w := by
  refine wpAnyH_all hr (by simp) fun j hj => ?_
  obtain rfl : j = i := by simpa using hj
  unfold Go.wpOp
  simp only [hi, hw, if_true, Oper.wp, he, Oper.upon]
  refine .inl (hc.mono ?_)
  rintro e w' ⟨rfl, hR⟩
  refine ⟨hS w' hR, ?_⟩
  rw [hd]
  exact h w' hR
end
end Go.Tk
