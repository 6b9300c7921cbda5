/- A range over a function whose contract tells the rounds by their numbers, and of what kind the blocks are that the iterator turns between two rounds. -/
import Derived.RangeFuncNested
set_option linter.unusedVariables false
set_option linter.unusedSimpArgs false
namespace Go.Tk
open Go Go.RowKit
/-- What abides new blocks, and a turn of a block of some kind, from B on. -/
def AbO {β : Type} (Q : Obj → Prop) (B : Nat) (J : β → World → Prop) : Prop :=
  ∀ s X Y row, J s X → X.grownBy Y row → (∀ r, row = some r → B ≤ r ∧ ∃ o : Obj, X.heap[r]? = some o ∧ Q o) → J s Y
theorem AbO.own {β : Type} {Q : Obj → Prop} {B : Nat} {J : β → World → Prop} (h : AbO (fun o => Q o ∨ o.isCells = false) B J) : OwnFrom B J :=
  fun s X Y row hs hg hr => h s X Y row hs hg fun r e => ⟨(hr r e).1, (hr r e).2.elim fun o ho => ⟨o, ho.1, .inr ho.2⟩⟩
theorem AbO.and {β : Type} {Q : Obj → Prop} {B : Nat} {I J : β → World → Prop} (h : AbO Q B I) (k : AbO Q B J) : AbO Q B (fun s W => I s W ∧ J s W) :=
  fun s X Y row hs hg hr => ⟨h s X Y row hs.1 hg hr, k s X Y row hs.2 hg hr⟩
theorem AbO.pure {β : Type} (Q : Obj → Prop) (B : Nat) (p : β → Prop) : AbO Q B (fun s (_ : World) => p s) := fun _ _ _ _ hs _ _ => hs
/-- An iterator's contract: what it goes through, one by one; Q says of what kind the blocks of its own are that it turns, Kp what a round must keep. -/
def SeqI (F : Fence) (n : Nat) (P : Program) (g : Nat) (lb : Array Value) (Ls : List (Array Value)) (Q : Obj → Prop) (Kp : Nat → World → World → Prop) (w : World) : Prop :=
  ∀ (l : Nat) (J Jx : Nat → World → Prop) (W : World), Below w.heap.size w W → AbO Q W.heap.size J → AbO Q W.heap.size Jx →
    (∀ i W1 (h : i < Ls.length), J i W1 → YieldAt F (n - 1) P l Ls[i] W1 fun e W' =>
      (e = .returned (.bool true) ∧ J (i + 1) W' ∧ Kp W.heap.size W1 W') ∨ (e = .returned (.bool false) ∧ Jx (i + 1) W' ∧ KeepsFrom W.heap.size W1 W')) →
    J 0 W →
    CallsIn F n P g (#[.func (.yield l) #[] #[]] ++ lb) W fun e W' => (∃ v, e = .returned v) ∧ (J Ls.length W' ∨ (∃ i, i ≤ Ls.length ∧ Jx i W'))
/-- How the body of a round may be left. -/
def postI (B : Nat) (Kp : World → World → Prop) (I : Nat → World → Prop) (Ix : Code → Nat → World → Prop) (i : Nat) (W : World) : Exit → Act → World → Prop
  | .normal, _, W' => KeepsFrom B W W' ∧ Kp W W' ∧ I i W'
  | .ret, _, W' => KeepsFrom B W W' ∧ Ix .ret i W'
  | .exit id, _, W' => KeepsFrom B W W' ∧ Ix (.exit id) i W'
  | .goto t, _, W' => KeepsFrom B W W' ∧ Ix (.goto t) i W'
  | .panic _, _, _ => False
  | .outgrown, _, _ => False
/-- The frame of round i: it hangs on what comes. -/
def axAt {α : Type} (B : List α) (fr : α → Act) : Nat → Act → World → Prop := fun i a' _ => ∃ h : i < B.length, a' = fr B[i]
theorem axAt_intro {α : Type} {B : List α} {fr : α → Act} {i : Nat} {a' : Act} {W : World} (h : i < B.length) {z : α} (hz : z = B[i]) (e : fr z = a') : axAt B fr i a' W := ⟨h, by rw [← hz, e]⟩
theorem axAt_own {α : Type} {T : Nat} (B : List α) (fr : α → Act) (i : Nat) (a' : Act) : OwnFrom T (fun (_ : Unit) W => axAt B fr i a' W) := fun _ _ _ _ h _ _ => h
variable {F : Fence} {n : Nat} {P : Program}
/-- The statement over such an iterator, at an outermost loop. -/
theorem wpIn_rangeFunc_ownI {g : Operand} {ps : Array Tmp} {assign body : Code} {Q : Exit → Act → World → Prop} {a : Act} {w : World}
    (hro : F.round = none) (h1 : 1 ≤ n) {gf : Nat} {lb : Array Value} (hg : a.eval g = .func (.func gf) #[] lb) (hFg : F.fn gf) (eg : ∀ args w, (callFunc gf args).run P w = .ok (.enter gf args) w)
    {Ls : List (Array Value)} {Qo : Obj → Prop} {Kp : Nat → World → World → Prop} {w0 : World} (hseq : SeqI F (n - 1) P gf lb Ls Qo Kp w0)
    (hKt : ∀ {A B C : World}, Kp (w.heap.size + 2) A B → Kp (w.heap.size + 2) B C → Kp (w.heap.size + 2) A C) (hKb : ∀ (W : World) (l : Nat) (o o' : Obj), w.heap.size ≤ l → l < w.heap.size + 2 → W.heap[l]? = some o → o.isCells = false → o.isWalk = false → Kp (w.heap.size + 2) W (W.putObj l o')) (hb0 : Below w0.heap.size w0 w) (hps : ∀ x ∈ Ls, x.size = ps.size)
    (I : Nat → World → Prop) (Ix : Code → Nat → World → Prop) (hI : AbO (fun o => Qo o ∨ o.isCells = false) w.heap.size I) (hIx : ∀ c, AbO (fun o => Qo o ∨ o.isCells = false) w.heap.size (Ix c)) (h0 : I 0 w) (Ax : Nat → Act → World → Prop) (hAx : ∀ x a', OwnFrom w.heap.size (fun (_ : Unit) W => Ax x a' W))
    (hassign : ∀ (l i : Nat) (hi : i < Ls.length) (W : World) (K : Act → World → Prop), I i W → (∀ a' W', KeepsFrom w.heap.size W W' → Kp (w.heap.size + 2) W W' → I i W' → Ax i a' W' → K a' W') →
      assign.wpIn (F.inRound l) (n - 1 - 1) P (Exit.then K (fun _ _ _ => False)) { tmps := (ps.zip Ls[i]).foldl (fun t (p, v) => t.setIfInBounds p v) a.tmps, defers := [] } W)
    (hbody : ∀ (l i : Nat) (hi : i < Ls.length) (a' : Act) (W : World), w.heap.size ≤ l → (∃ r, W.heap[l]? = some (.loop r)) → I i W → Ax i a' W → body.wpIn (F.inRound l) (n - 1 - 1) P (postI w.heap.size (Kp (w.heap.size + 2)) I Ix (i + 1) W) a' W)
    (hdone : ∀ (D : Nat) (W : World), w.heap.size ≤ D → I Ls.length W → W.heap[D]? = some (.deferred (some [])) → Q .normal { a with defers := { target := .collected D, args := #[] } :: a.defers } W)
    (hstop : ∀ (D : Nat) (c : Code) (i : Nat) (W : World), w.heap.size ≤ D → i ≤ Ls.length → Ix c i W → W.heap[D]? = some (.deferred (some [])) → c.wpIn F n P Q { a with defers := { target := .collected D, args := #[] } :: a.defers } W) :
    (Code.rangeFunc g ps assign body).wpIn F n P Q a w := by
  refine wpIn_rangeFunc fun fn hfn => ?_
  rw [hro]
  obtain ⟨rec, hrec⟩ : ∃ rec : LoopState → Option Code → Loop, rec = fun st pe => { state := st, pending := pe, fn, tmps := a.tmps, params := ps, assign, body, defers := w.heap.size } := ⟨_, rfl⟩
  obtain ⟨W1, hW1⟩ : ∃ W1, (w.alloc (.deferred (some []))).alloc (.loop (rec .ready none)) = W1 := ⟨_, rfl⟩
  have z1 : W1.heap.size = w.heap.size + 2 := by rw [← hW1]; simp
  have hseq := hseq (w.heap.size + 1)
    (fun pre W => I pre W ∧ W.heap[w.heap.size + 1]? = some (.loop (rec .ready none)) ∧ W.heap[w.heap.size]? = some (.deferred (some [])))
    (fun pre W => ∃ c, Ix c pre W ∧ W.heap[w.heap.size + 1]? = some (.loop (rec .done (some c))) ∧ W.heap[w.heap.size]? = some (.deferred (some [])))
    W1
  rw [z1] at hseq
  have hL1 : W1.heap[w.heap.size + 1]? = some (.loop (rec .ready none)) := by
    rw [← hW1]; have := World.alloc_heap_new (w.alloc (.deferred (some []))) (.loop (rec .ready none)); rwa [World.size_alloc] at this
  have hK1 : W1.heap[w.heap.size]? = some (.deferred (some [])) := by
    rw [← hW1]; exact (Below.heap_alloc _ _ _ (by simp)).trans (World.alloc_heap_new w _)
  have hI1 : I 0 W1 := by rw [← hW1]; exact hI.own.alloc _ (hI.own.alloc _ h0)
  have hb1 : Below w0.heap.size w0 W1 := by
    rw [← hW1]; exact hb0.trans ((((Below.refl _ w).alloc (Nat.le_refl _) _).alloc (by simp) _).mono hb0.size)
  refine ⟨w.heap.size + 1, [{ target := .collected w.heap.size, args := #[] }], W1, { target := .fn (.func gf) lb, args := #[.func (.yield (w.heap.size + 1)) #[] #[]] }, W1, gf,
    #[.func (.yield (w.heap.size + 1)) #[] #[]] ++ lb, W1, by rw [← hW1, hrec]; exact run_enterLoop_outer _ _ _ _ _, ?_, ?_, by simp [invoke, go_sem, eg], fun _ => h1, ?_⟩
  · simp only [resolve, hg]
    simp [go_sem]
  · intro f' hf'; simp [Target.leads] at hf'; subst hf'; exact hFg
  have hof : ∀ {X : World} {row : Option Nat}, (∀ r, row = some r → w.heap.size + 2 ≤ r ∧ ∃ o : Obj, X.heap[r]? = some o ∧ Qo o) → (∀ r, row = some r → w.heap.size ≤ r ∧ ∃ o : Obj, X.heap[r]? = some o ∧ (Qo o ∨ o.isCells = false)) :=
    fun hr r e => by obtain ⟨hB, o, ho, hq⟩ := hr r e; exact ⟨by omega, o, ho, .inl hq⟩
  have hst : ∀ {X Y : World} {row : Option Nat} {k : Nat} {o : Obj}, X.grownBy Y row → (∀ r, row = some r → w.heap.size + 2 ≤ r ∧ ∃ o : Obj, X.heap[r]? = some o ∧ Qo o) → k < w.heap.size + 2 → X.heap[k]? = some o → Y.heap[k]? = some o :=
    fun hg' hr hk ho => (hg'.block _ (Array.getElem?_eq_some_iff.1 ho).1 (fun e => by have := (hr _ e.symm).1; omega)).trans ho
  refine (hseq hb1
    (fun s X Y row hs hg' hr => ⟨hI s X Y row hs.1 hg' (hof hr), hst hg' hr (by omega) hs.2.1, hst hg' hr (by omega) hs.2.2⟩)
    (fun s X Y row ⟨c, hc, hl, hk⟩ hg' hr => ⟨c, hIx c s X Y row hc hg' (hof hr), hst hg' hr (by omega) hl, hst hg' hr (by omega) hk⟩)
    ?_ ⟨hI1, hL1, hK1⟩).mono ?_
  · rintro pre W hlen ⟨hi, hl, hk⟩
    have hy := run_yield (P := P) (args := Ls[pre]) hl (by rw [hrec]; exact hps _ (List.getElem_mem hlen))
    rw [hrec] at hy
    refine ⟨fn, _, assign, body, hy, roundIn_of_wpIn hfn (hassign _ pre hlen W _ hi ?_)⟩
    clear hy
    intro a' V hkfa hkpa hia hax
    have hlV := hkfa.same _ _ (by omega) hl rfl
    have hkV := hkfa.same _ _ (Nat.le_refl _) hk rfl
    have hltV : w.heap.size + 1 < V.heap.size := (Array.getElem?_eq_some_iff.1 hlV).1
    refine ⟨_, run_beginRound hlV (by rw [hrec]), ?_⟩
    obtain ⟨U, hU⟩ : ∃ U, U = V.putObj (w.heap.size + 1) (.loop { rec .ready none with state := .busy }) := ⟨_, rfl⟩
    have hl2 : U.heap[w.heap.size + 1]? = some (.loop { rec .ready none with state := .busy }) := by rw [hU]; exact World.putObj_heap_same hltV
    have hk2 : U.heap[w.heap.size]? = some (.deferred (some [])) := by rw [hU]; exact (World.putObj_heap_other (by omega)).trans hkV
    have hw2 : Kp (w.heap.size + 2) V U := by rw [hU]; exact hKb _ _ _ _ (by omega) (by omega) hlV rfl rfl
    have hiU : I pre U := by rw [hU]; exact hI.own.putObj _ hia (by omega) hlV rfl
    have haU : Ax pre a' U := by rw [hU]; exact (hAx pre a').putObj (s := ()) _ hax (by omega) hlV rfl
    rw [← hU]
    refine wpIn_mono (hbody _ pre hlen a' U (by omega) ⟨_, hl2⟩ hiU haU) ?_
    have fin : ∀ (jump : Option Code) (W3 : World), KeepsFrom w.heap.size U W3 →
        (Instr.endRound (w.heap.size + 1) jump).run P W3 = .ok (.bool jump.isNone) (W3.putObj (w.heap.size + 1) (.loop (rec (if jump.isNone then .ready else .done) jump))) ∧
        W3.heap[w.heap.size + 1]? = some (.loop { rec .ready none with state := .busy }) ∧
        (W3.putObj (w.heap.size + 1) (.loop (rec (if jump.isNone then .ready else .done) jump))).heap[w.heap.size + 1]? = some (.loop (rec (if jump.isNone then .ready else .done) jump)) ∧
        (W3.putObj (w.heap.size + 1) (.loop (rec (if jump.isNone then .ready else .done) jump))).heap[w.heap.size]? = some (.deferred (some [])) := fun jump W3 hk3 => by
      have hl3 := hk3.same _ _ (by omega) hl2 rfl
      have hr3 := run_endRound (P := P) jump hl3
      rw [hrec] at hr3
      refine ⟨by rw [hrec]; exact hr3, hl3, World.putObj_heap_same (Array.getElem?_eq_some_iff.1 hl3).1, (World.putObj_heap_other (by omega)).trans (hk3.same _ _ (Nat.le_refl _) hk2 rfl)⟩
    have jump : ∀ (c : Code) (W3 : World), KeepsFrom w.heap.size U W3 → Ix c (pre + 1) W3 → ∃ v w', (Instr.endRound (w.heap.size + 1) (some c)).run P W3 = .ok v w' ∧
        ((Ending.returned v = .returned (.bool true) ∧ (I (pre + 1) w' ∧ w'.heap[w.heap.size + 1]? = some (.loop (rec .ready none)) ∧ w'.heap[w.heap.size]? = some (.deferred (some []))) ∧ Kp (w.heap.size + 2) W w') ∨
         (Ending.returned v = .returned (.bool false) ∧ (∃ c, Ix c (pre + 1) w' ∧ w'.heap[w.heap.size + 1]? = some (.loop (rec .done (some c))) ∧ w'.heap[w.heap.size]? = some (.deferred (some []))) ∧ KeepsFrom (w.heap.size + 2) W w')) := fun c W3 hk3 hi3 => by
      obtain ⟨hr, hl3, hl4, hk4⟩ := fin (some c) W3 hk3
      refine ⟨_, _, hr, .inr ⟨rfl, ⟨c, (hIx c).own.putObj _ hi3 (by omega) hl3 rfl, hl4, hk4⟩, ?_, ?_⟩⟩
      · have s1 := hkfa.size
        have s2 : U.heap.size = V.heap.size := by rw [hU]; simp
        have s3 := hk3.size
        simp; omega
      · intro k o hB ho hc
        refine (World.putObj_heap_other (by omega)).trans (hk3.same k o (by omega) ?_ hc)
        rw [hU]
        exact (World.putObj_heap_other (by omega)).trans (hkfa.same k o (by omega) ho hc)
    rintro e a3 W3 hp
    cases e with
    | normal =>
      obtain ⟨hk3, hkp3, hi3⟩ := hp
      obtain ⟨hr, hl3, hl4, hk4⟩ := fin none W3 hk3
      exact ⟨_, _, hr, .inl ⟨rfl, ⟨hI.own.putObj _ hi3 (by omega) hl3 rfl, hl4, hk4⟩, hKt hkpa (hKt (hKt hw2 hkp3) (hKb _ _ _ _ (by omega) (by omega) hl3 rfl rfl))⟩⟩
    | ret => exact jump _ W3 hp.1 hp.2
    | exit id => exact jump _ W3 hp.1 hp.2
    | goto t => exact jump _ W3 hp.1 hp.2
    | panic ch => exact hp.elim
    | outgrown => exact hp.elim
  · have hend : ∀ (st : LoopState) (pe : Option Code) (W2 : World), st ≠ .busy → W2.heap[w.heap.size + 1]? = some (.loop (rec st pe)) → (Instr.endLoop (w.heap.size + 1)).run P W2 = .ok pe (W2.putObj (w.heap.size + 1) (.loop { rec st pe with state := .exhausted })) := fun st pe W2 hs hl => by
      have := run_endLoop (P := P) hl (by rw [hrec]; exact hs)
      rw [hrec] at this ⊢
      exact this
    rintro e W2 ⟨⟨v, rfl⟩, (⟨hi, hl, hk⟩ | ⟨pre, hSp, c, hi, hl, hk⟩)⟩
    · exact ⟨none, _, hend _ _ _ (by simp) hl, hdone _ _ (Nat.le_refl _) (hI.own.putObj _ hi (by omega) hl rfl) ((World.putObj_heap_other (by omega)).trans hk)⟩
    · exact ⟨some c, _, hend _ _ _ (by simp) hl, hstop _ c pre _ (Nat.le_refl _) hSp ((hIx c).own.putObj _ hi (by omega) hl rfl) ((World.putObj_heap_other (by omega)).trans hk)⟩
end Go.Tk
