/- RfI DkT DlE DlK, laid as one. -/
import Derived.RangeFuncNested
import Derived.Test.YtjgcmnppiaikcaaDkK
import Derived.Laws.StructEq
import Derived.BigQuiet
import Derived.Deep.QuietTactic
import Derived.Outline
set_option linter.unusedVariables false
set_option linter.unusedSimpArgs false
/- A range over a function whose contract tells the rounds by their numbers, and of what kind the blocks are that the iterator turns between two rounds. -/
namespace Go.Tk
open Go Go.RowKit
/-- What abides new blocks, and a turn of a block of some kind, from B on. -/
def AbO {β : Type} (Q : Obj → Prop) (B : Nat) (J : β → World → Prop) : Prop :=
  ∀ s X Y row, J s X → X.grownBy Y row → (∀ r, row = some r → B ≤ r ∧ ∃ o : Obj, X.heap[r]? = some o ∧ Q o) → J s Y
theorem AbO.own {β : Type} {Q : Obj → Prop} {B : Nat} {J : β → World → Prop} (h : AbO (fun o => Q o ∨ o.isCells = false) B J) : OwnFrom B J :=
  fun s X Y row hs hg hr => h s X Y row hs hg fun r e => ⟨(hr r e).1, (hr r e).2.elim fun o ho => ⟨o, ho.1, .inr ho.2⟩⟩
theorem AbO.and {β : Type} {Q : Obj → Prop} {B : Nat} {I J : β → World → Prop} (h : AbO Q B I) (k : AbO Q B J) : AbO Q B (fun s W => I s W ∧ J s W) :=
  fun s X Y row hs hg hr => ⟨h s X Y row hs.1 hg hr, k s X Y row hs.2 hg hr⟩
theorem AbO.pure {β : Type} (Q : Obj → Prop) (B : Nat) (p : β → Prop) : AbO Q B (fun s (_ : World) => p s) := fun _ _ _ _ hs _ _ => hs
/-- An iterator's contract: what it goes through, one by one; Q says of what kind the blocks of its own are that it turns, Kp what a round must keep. -/
def SeqI (F : Fence) (n : Nat) (P : Program) (g : Nat) (lb : Array Value) (Ls : List (Array Value)) (Q : Obj → Prop) (Kp : Nat → World → World → Prop) (w : World) : Prop :=
  ∀ (l : Nat) (J Jx : Nat → World → Prop) (W : World), Below w.heap.size w W → AbO Q W.heap.size J → AbO Q W.heap.size Jx →
    (∀ i W1 (h : i < Ls.length), J i W1 → YieldAt F (n - 1) P l Ls[i] W1 fun e W' =>
      (e = .returned (.bool true) ∧ J (i + 1) W' ∧ Kp W.heap.size W1 W') ∨ (e = .returned (.bool false) ∧ Jx (i + 1) W' ∧ KeepsFrom W.heap.size W1 W')) →
    J 0 W →
    CallsIn F n P g (#[.func (.yield l) #[] #[]] ++ lb) W fun e W' => (∃ v, e = .returned v) ∧ (J Ls.length W' ∨ (∃ i, i ≤ Ls.length ∧ Jx i W'))
/-- How the body of a round may be left. -/
def postI (B : Nat) (Kp : World → World → Prop) (I : Nat → World → Prop) (Ix : Code → Nat → World → Prop) (i : Nat) (W : World) : Exit → Act → World → Prop
  | .normal, _, W' => KeepsFrom B W W' ∧ Kp W W' ∧ I i W'
  | .ret, _, W' => KeepsFrom B W W' ∧ Ix .ret i W'
  | .exit id, _, W' => KeepsFrom B W W' ∧ Ix (.exit id) i W'
  | .goto t, _, W' => KeepsFrom B W W' ∧ Ix (.goto t) i W'
  | .panic _, _, _ => False
  | .outgrown, _, _ => False
/-- The frame of round i: it hangs on what comes. -/
def axAt {α : Type} (B : List α) (fr : α → Act) : Nat → Act → World → Prop := fun i a' _ => ∃ h : i < B.length, a' = fr B[i]
theorem axAt_intro {α : Type} {B : List α} {fr : α → Act} {i : Nat} {a' : Act} {W : World} (h : i < B.length) {z : α} (hz : z = B[i]) (e : fr z = a') : axAt B fr i a' W := ⟨h, by rw [← hz, e]⟩
theorem axAt_own {α : Type} {T : Nat} (B : List α) (fr : α → Act) (i : Nat) (a' : Act) : OwnFrom T (fun (_ : Unit) W => axAt B fr i a' W) := fun _ _ _ _ h _ _ => h
variable {F : Fence} {n : Nat} {P : Program}
/-- The statement over such an iterator, at an outermost loop. -/
theorem wpIn_rangeFunc_ownI {g : Operand} {ps : Array Tmp} {assign body : Code} {Q : Exit → Act → World → Prop} {a : Act} {w : World}
    (hro : F.round = none) (h1 : 1 ≤ n) {gf : Nat} {lb : Array Value} (hg : a.eval g = .func (.func gf) #[] lb) (hFg : F.fn gf) (eg : ∀ args w, (callFunc gf args).run P w = .ok (.enter gf args) w)
    {Ls : List (Array Value)} {Qo : Obj → Prop} {Kp : Nat → World → World → Prop} {w0 : World} (hseq : SeqI F (n - 1) P gf lb Ls Qo Kp w0)
    (hKt : ∀ {A B C : World}, Kp (w.heap.size + 2) A B → Kp (w.heap.size + 2) B C → Kp (w.heap.size + 2) A C) (hKb : ∀ (W : World) (l : Nat) (o o' : Obj), w.heap.size ≤ l → l < w.heap.size + 2 → W.heap[l]? = some o → o.isCells = false → o.isWalk = false → Kp (w.heap.size + 2) W (W.putObj l o')) (hb0 : Below w0.heap.size w0 w) (hps : ∀ x ∈ Ls, x.size = ps.size)
    (I : Nat → World → Prop) (Ix : Code → Nat → World → Prop) (hI : AbO (fun o => Qo o ∨ o.isCells = false) w.heap.size I) (hIx : ∀ c, AbO (fun o => Qo o ∨ o.isCells = false) w.heap.size (Ix c)) (h0 : I 0 w) (Ax : Nat → Act → World → Prop) (hAx : ∀ x a', OwnFrom w.heap.size (fun (_ : Unit) W => Ax x a' W))
    (hassign : ∀ (l i : Nat) (hi : i < Ls.length) (W : World) (K : Act → World → Prop), I i W → (∀ a' W', KeepsFrom w.heap.size W W' → Kp (w.heap.size + 2) W W' → I i W' → Ax i a' W' → K a' W') →
      assign.wpIn (F.inRound l) (n - 1 - 1) P (Exit.then K (fun _ _ _ => False)) { tmps := (ps.zip Ls[i]).foldl (fun t (p, v) => t.setIfInBounds p v) a.tmps, defers := [] } W)
    (hbody : ∀ (l i : Nat) (hi : i < Ls.length) (a' : Act) (W : World), w.heap.size ≤ l → (∃ r, W.heap[l]? = some (.loop r)) → I i W → Ax i a' W → body.wpIn (F.inRound l) (n - 1 - 1) P (postI w.heap.size (Kp (w.heap.size + 2)) I Ix (i + 1) W) a' W)
    (hdone : ∀ (D : Nat) (W : World), w.heap.size ≤ D → I Ls.length W → W.heap[D]? = some (.deferred (some [])) → Q .normal { a with defers := { target := .collected D, args := #[] } :: a.defers } W)
    (hstop : ∀ (D : Nat) (c : Code) (i : Nat) (W : World), w.heap.size ≤ D → i ≤ Ls.length → Ix c i W → W.heap[D]? = some (.deferred (some [])) → c.wpIn F n P Q { a with defers := { target := .collected D, args := #[] } :: a.defers } W) :
    (Code.rangeFunc g ps assign body).wpIn F n P Q a w := by
  refine wpIn_rangeFunc fun fn hfn => ?_
  rw [hro]
  obtain ⟨rec, hrec⟩ : ∃ rec : LoopState → Option Code → Loop, rec = fun st pe => { state := st, pending := pe, fn, tmps := a.tmps, params := ps, assign, body, defers := w.heap.size } := ⟨_, rfl⟩
  obtain ⟨W1, hW1⟩ : ∃ W1, (w.alloc (.deferred (some []))).alloc (.loop (rec .ready none)) = W1 := ⟨_, rfl⟩
  have z1 : W1.heap.size = w.heap.size + 2 := by rw [← hW1]; simp
  have hseq := hseq (w.heap.size + 1)
    (fun pre W => I pre W ∧ W.heap[w.heap.size + 1]? = some (.loop (rec .ready none)) ∧ W.heap[w.heap.size]? = some (.deferred (some [])))
    (fun pre W => ∃ c, Ix c pre W ∧ W.heap[w.heap.size + 1]? = some (.loop (rec .done (some c))) ∧ W.heap[w.heap.size]? = some (.deferred (some [])))
    W1
  rw [z1] at hseq
  have hL1 : W1.heap[w.heap.size + 1]? = some (.loop (rec .ready none)) := by
    rw [← hW1]; have := World.alloc_heap_new (w.alloc (.deferred (some []))) (.loop (rec .ready none)); rwa [World.size_alloc] at this
  have hK1 : W1.heap[w.heap.size]? = some (.deferred (some [])) := by
    rw [← hW1]; exact (Below.heap_alloc _ _ _ (by simp)).trans (World.alloc_heap_new w _)
  have hI1 : I 0 W1 := by rw [← hW1]; exact hI.own.alloc _ (hI.own.alloc _ h0)
  have hb1 : Below w0.heap.size w0 W1 := by
    rw [← hW1]; exact hb0.trans ((((Below.refl _ w).alloc (Nat.le_refl _) _).alloc (by simp) _).mono hb0.size)
  refine ⟨w.heap.size + 1, [{ target := .collected w.heap.size, args := #[] }], W1, { target := .fn (.func gf) lb, args := #[.func (.yield (w.heap.size + 1)) #[] #[]] }, W1, gf,
    #[.func (.yield (w.heap.size + 1)) #[] #[]] ++ lb, W1, by rw [← hW1, hrec]; exact run_enterLoop_outer _ _ _ _ _, ?_, ?_, by simp [invoke, go_sem, eg], fun _ => h1, ?_⟩
  · simp only [resolve, hg]
    simp [go_sem]
  · intro f' hf'; simp [Target.leads] at hf'; subst hf'; exact hFg
  have hof : ∀ {X : World} {row : Option Nat}, (∀ r, row = some r → w.heap.size + 2 ≤ r ∧ ∃ o : Obj, X.heap[r]? = some o ∧ Qo o) → (∀ r, row = some r → w.heap.size ≤ r ∧ ∃ o : Obj, X.heap[r]? = some o ∧ (Qo o ∨ o.isCells = false)) :=
    fun hr r e => by obtain ⟨hB, o, ho, hq⟩ := hr r e; exact ⟨by omega, o, ho, .inl hq⟩
  have hst : ∀ {X Y : World} {row : Option Nat} {k : Nat} {o : Obj}, X.grownBy Y row → (∀ r, row = some r → w.heap.size + 2 ≤ r ∧ ∃ o : Obj, X.heap[r]? = some o ∧ Qo o) → k < w.heap.size + 2 → X.heap[k]? = some o → Y.heap[k]? = some o :=
    fun hg' hr hk ho => (hg'.block _ (Array.getElem?_eq_some_iff.1 ho).1 (fun e => by have := (hr _ e.symm).1; omega)).trans ho
  refine (hseq hb1
    (fun s X Y row hs hg' hr => ⟨hI s X Y row hs.1 hg' (hof hr), hst hg' hr (by omega) hs.2.1, hst hg' hr (by omega) hs.2.2⟩)
    (fun s X Y row ⟨c, hc, hl, hk⟩ hg' hr => ⟨c, hIx c s X Y row hc hg' (hof hr), hst hg' hr (by omega) hl, hst hg' hr (by omega) hk⟩)
    ?_ ⟨hI1, hL1, hK1⟩).mono ?_
  · rintro pre W hlen ⟨hi, hl, hk⟩
    have hy := run_yield (P := P) (args := Ls[pre]) hl (by rw [hrec]; exact hps _ (List.getElem_mem hlen))
    rw [hrec] at hy
    refine ⟨fn, _, assign, body, hy, roundIn_of_wpIn hfn (hassign _ pre hlen W _ hi ?_)⟩
    clear hy
    intro a' V hkfa hkpa hia hax
    have hlV := hkfa.same _ _ (by omega) hl rfl
    have hkV := hkfa.same _ _ (Nat.le_refl _) hk rfl
    have hltV : w.heap.size + 1 < V.heap.size := (Array.getElem?_eq_some_iff.1 hlV).1
    refine ⟨_, run_beginRound hlV (by rw [hrec]), ?_⟩
    obtain ⟨U, hU⟩ : ∃ U, U = V.putObj (w.heap.size + 1) (.loop { rec .ready none with state := .busy }) := ⟨_, rfl⟩
    have hl2 : U.heap[w.heap.size + 1]? = some (.loop { rec .ready none with state := .busy }) := by rw [hU]; exact World.putObj_heap_same hltV
    have hk2 : U.heap[w.heap.size]? = some (.deferred (some [])) := by rw [hU]; exact (World.putObj_heap_other (by omega)).trans hkV
    have hw2 : Kp (w.heap.size + 2) V U := by rw [hU]; exact hKb _ _ _ _ (by omega) (by omega) hlV rfl rfl
    have hiU : I pre U := by rw [hU]; exact hI.own.putObj _ hia (by omega) hlV rfl
    have haU : Ax pre a' U := by rw [hU]; exact (hAx pre a').putObj (s := ()) _ hax (by omega) hlV rfl
    rw [← hU]
    refine wpIn_mono (hbody _ pre hlen a' U (by omega) ⟨_, hl2⟩ hiU haU) ?_
    have fin : ∀ (jump : Option Code) (W3 : World), KeepsFrom w.heap.size U W3 →
        (Instr.endRound (w.heap.size + 1) jump).run P W3 = .ok (.bool jump.isNone) (W3.putObj (w.heap.size + 1) (.loop (rec (if jump.isNone then .ready else .done) jump))) ∧
        W3.heap[w.heap.size + 1]? = some (.loop { rec .ready none with state := .busy }) ∧
        (W3.putObj (w.heap.size + 1) (.loop (rec (if jump.isNone then .ready else .done) jump))).heap[w.heap.size + 1]? = some (.loop (rec (if jump.isNone then .ready else .done) jump)) ∧
        (W3.putObj (w.heap.size + 1) (.loop (rec (if jump.isNone then .ready else .done) jump))).heap[w.heap.size]? = some (.deferred (some [])) := fun jump W3 hk3 => by
      have hl3 := hk3.same _ _ (by omega) hl2 rfl
      have hr3 := run_endRound (P := P) jump hl3
      rw [hrec] at hr3
      refine ⟨by rw [hrec]; exact hr3, hl3, World.putObj_heap_same (Array.getElem?_eq_some_iff.1 hl3).1, (World.putObj_heap_other (by omega)).trans (hk3.same _ _ (Nat.le_refl _) hk2 rfl)⟩
    have jump : ∀ (c : Code) (W3 : World), KeepsFrom w.heap.size U W3 → Ix c (pre + 1) W3 → ∃ v w', (Instr.endRound (w.heap.size + 1) (some c)).run P W3 = .ok v w' ∧
        ((Ending.returned v = .returned (.bool true) ∧ (I (pre + 1) w' ∧ w'.heap[w.heap.size + 1]? = some (.loop (rec .ready none)) ∧ w'.heap[w.heap.size]? = some (.deferred (some []))) ∧ Kp (w.heap.size + 2) W w') ∨
         (Ending.returned v = .returned (.bool false) ∧ (∃ c, Ix c (pre + 1) w' ∧ w'.heap[w.heap.size + 1]? = some (.loop (rec .done (some c))) ∧ w'.heap[w.heap.size]? = some (.deferred (some []))) ∧ KeepsFrom (w.heap.size + 2) W w')) := fun c W3 hk3 hi3 => by
      obtain ⟨hr, hl3, hl4, hk4⟩ := fin (some c) W3 hk3
      refine ⟨_, _, hr, .inr ⟨rfl, ⟨c, (hIx c).own.putObj _ hi3 (by omega) hl3 rfl, hl4, hk4⟩, ?_, ?_⟩⟩
      · have s1 := hkfa.size
        have s2 : U.heap.size = V.heap.size := by rw [hU]; simp
        have s3 := hk3.size
        simp; omega
      · intro k o hB ho hc
        refine (World.putObj_heap_other (by omega)).trans (hk3.same k o (by omega) ?_ hc)
        rw [hU]
        exact (World.putObj_heap_other (by omega)).trans (hkfa.same k o (by omega) ho hc)
    rintro e a3 W3 hp
    cases e with
    | normal =>
      obtain ⟨hk3, hkp3, hi3⟩ := hp
      obtain ⟨hr, hl3, hl4, hk4⟩ := fin none W3 hk3
      exact ⟨_, _, hr, .inl ⟨rfl, ⟨hI.own.putObj _ hi3 (by omega) hl3 rfl, hl4, hk4⟩, hKt hkpa (hKt (hKt hw2 hkp3) (hKb _ _ _ _ (by omega) (by omega) hl3 rfl rfl))⟩⟩
    | ret => exact jump _ W3 hp.1 hp.2
    | exit id => exact jump _ W3 hp.1 hp.2
    | goto t => exact jump _ W3 hp.1 hp.2
    | panic ch => exact hp.elim
    | outgrown => exact hp.elim
  · have hend : ∀ (st : LoopState) (pe : Option Code) (W2 : World), st ≠ .busy → W2.heap[w.heap.size + 1]? = some (.loop (rec st pe)) → (Instr.endLoop (w.heap.size + 1)).run P W2 = .ok pe (W2.putObj (w.heap.size + 1) (.loop { rec st pe with state := .exhausted })) := fun st pe W2 hs hl => by
      have := run_endLoop (P := P) hl (by rw [hrec]; exact hs)
      rw [hrec] at this ⊢
      exact this
    rintro e W2 ⟨⟨v, rfl⟩, (⟨hi, hl, hk⟩ | ⟨pre, hSp, c, hi, hl, hk⟩)⟩
    · exact ⟨none, _, hend _ _ _ (by simp) hl, hdone _ _ (Nat.le_refl _) (hI.own.putObj _ hi (by omega) hl rfl) ((World.putObj_heap_other (by omega)).trans hk)⟩
    · exact ⟨some c, _, hend _ _ _ (by simp) hl, hstop _ c pre _ (Nat.le_refl _) hSp ((hIx c).own.putObj _ hi (by omega) hl rfl) ((World.putObj_heap_other (by omega)).trans hk)⟩
end Go.Tk
/- Each, of a dictionary of any bytes: what the iterator goes through. -/
namespace Go.Tk
open Go Go.RowKit
/-- The marks of ranges that have come to their end. -/
def marks (Ds : List Nat) : List Deferred := Ds.map fun D => { target := .collected D, args := #[] }
theorem leavesMarks {F : Fence} {n : Nat} {P : Program} {fn : Func} {tmps : Array Value} {R : Ending → World → Prop} {v : Value} (J : World → Prop) (B : Nat)
    (hJ : ∀ X D, J X → B ≤ D → X.heap[D]? = some (.deferred (some [])) → J (X.putObj D (.deferred none))) (hres : ∀ X, J X → (results fn tmps).run P X = .ok v X) (hR : ∀ X, J X → R (.returned v) X) :
    ∀ (Ds : List Nat) (X : World), Ds.Nodup → (∀ D ∈ Ds, B ≤ D ∧ X.heap[D]? = some (.deferred (some []))) → J X → LeavesInM F n P fn tmps R (marks Ds) .returning X
  | [], X, _, _, h => ⟨_, hres X h, hR X h⟩
  | D :: Ds, X, hn, hd, h => by
    refine ⟨by simp, .inl ⟨D, _, rfl, run_takeDeferred (hd D (by simp)).2, ?_⟩⟩
    have hn' := List.nodup_cons.1 hn
    exact leavesMarks J B hJ hres hR Ds _ hn'.2 (fun D' h' => ⟨(hd D' (by simp [h'])).1, (World.putObj_heap_other (fun e => hn'.1 (by rw [e] at h'; exact h'))).trans (hd D' (by simp [h'])).2⟩) (hJ X D h (hd D (by simp)).1 (hd D (by simp)).2)
theorem yield_wide {m m' : Nat} {P : Program} {l : Nat} {args : Array Value} {W : World} {R : Ending → World → Prop} (h : YieldAt Fence.wide m P l args W R) : YieldAt Fence.wide m' P l args W R := by
  obtain ⟨fn, tmps, assign, body, h1, h2⟩ := h
  exact ⟨fn, tmps, assign, body, h1, h2.1, fun c cs _ => h2.2 c cs (room_wide _)⟩
/-- What stands in S, what is of the kind Q, and what is no cells from B on, lies as it lay. -/
structure KpO (Q : Obj → Prop) (S : Nat → Prop) (B : Nat) (X Y : World) : Prop where
  size : X.heap.size ≤ Y.heap.size
  same : ∀ (j : Nat) (o : Obj), X.heap[j]? = some o → (S j ∨ Q o ∨ (B ≤ j ∧ o.isCells = false)) → Y.heap[j]? = some o
theorem KpO.trans {Q : Obj → Prop} {S : Nat → Prop} {B : Nat} {X Y Z : World} (h : KpO Q S B X Y) (k : KpO Q S B Y Z) : KpO Q S B X Z := ⟨Nat.le_trans h.size k.size, fun j o ho hs => k.same j o (h.same j o ho hs) hs⟩
theorem KpO.to {Q : Obj → Prop} {S : Nat → Prop} {B B' : Nat} {X Y : World} (h : KpO Q S B X Y) (hB : B ≤ B') : KeepsFrom B' X Y := ⟨h.size, fun k o hk ho hc => h.same k o ho (.inr (.inr ⟨by omega, hc⟩))⟩
end Go.Tk
namespace Go.Proofs.Ytjgcmnppiaikcaa
open Go.RowKit Go.Shelf Go.Tk
attribute [local go_sem] Oper.semAt_some
/-- The kind of blocks that are Each's own: boxes of numbers, of the dictionary, of yield. -/
def QoE (o : Obj) : Prop := (∃ v, o = .cells #[v] 3 (0, 0)) ∨ (∃ v, o = .cells #[v] 38 (0, 0)) ∨ (∃ v, o = .cells #[v] 122 (0, 0))
/-- The entries from block k on whose numbers are not below fr. -/
def eachG (pz : List Int) (wd : Nat) (eb : List UInt8) (n fr : Nat) : Nat → Nat → List (Nat × List UInt8)
  | 0, _ => []
  | f + 1, k => if (n + 15) / 16 ≤ k then [] else
    (blkN pz wd eb n k).filter (fun x => decide (fr ≤ x.1)) ++ (if 16 * k + (blkN pz wd eb n k).length < min n (16 * (k + 1)) then [] else eachG pz wd eb n fr f (k + 1))
def eachF (pz : List Int) (wd : Nat) (eb : List UInt8) (n : Nat) (fr : Int) : List (Nat × List UInt8) := eachG pz wd eb n fr.toNat ((n + 15) / 16) (fr.toNat / 16)
/-- The block's iterator, its rounds by their numbers. -/
theorem blockI_in (n : Nat) (hn : 1 ≤ n) (w0 : World) (gd N wd : Nat) (pa : Option Addr) (pc : Nat) (pz : List Int) (ea : Option Addr) (ec : Nat) (eb : List UInt8) (hD : DictM w0 gd N wd pa pc pz ea ec (nums eb))
    (p1 p2 : Nat) (q : Nat) (hq : q < (N + 15) / 16) (L : List (Nat × List UInt8)) (hL : L = blkN pz wd eb N q) (W : World) (hp1 : W.heap[p1]? = some (.cells #[.pointer (some ⟨gd, 0, none⟩)] 38 (0, 0))) (hp2 : W.heap[p2]? = some (.cells #[.int .i64 (q : Nat)] 3 (0, 0))) (hsz : w0.heap.size ≤ W.heap.size) (hsame : ∀ j, j < w0.heap.size → W.heap[j]? = w0.heap[j]?) :
    SeqI Fence.wide n Try.prog 72 #[.pointer (some ⟨p1, 0, none⟩), .pointer (some ⟨p2, 0, none⟩)] (L.map encK) (fun _ => False) (fun _ => KpD w0 p1 p2) W := by
  intro l J Jx W' hW' hA _ hY h0
  rw [List.length_map]
  refine block1_in n hn l w0 gd N wd pa pc pz ea ec eb hD p1 p2 q hq L hL J Jx ?_ (fun i X X' hJ hg => hA _ X X' none hJ hg (fun r e => by cases e)) W' ((hW'.block _ (lt_of_block hp1)).trans hp1) ((hW'.block _ (lt_of_block hp2)).trans hp2) (Nat.le_trans hsz hW'.size) (fun j hj => (hW'.block _ (by omega)).trans (hsame j hj)) h0
  intro i X hi hJ
  have := hY i X (by rw [List.length_map]; exact hi) hJ
  rw [List.getElem_map] at this
  obtain ⟨fn, tmps, assign, body, h1, h2⟩ := this
  exact ⟨fn, tmps, assign, body, h1, h2.mono fun e X' h => h.imp id fun h => ⟨h.1, h.2.1⟩⟩
theorem flt_at {α : Type} {p : α → Bool} {B L r : List α} {m i : Nat} (h : L.drop m = B.filter p ++ r) (hi : i < B.length) :
    (p B[i] = true → (∃ hlt : m + ((B.take i).filter p).length < L.length, L[m + ((B.take i).filter p).length] = B[i]) ∧ ((B.take (i + 1)).filter p).length = ((B.take i).filter p).length + 1) ∧ (p B[i] = false → ((B.take (i + 1)).filter p).length = ((B.take i).filter p).length) := by
  have e1 : B.take (i + 1) = B.take i ++ [B[i]] := List.take_succ_eq_append_getElem hi
  refine ⟨fun hp => ⟨?_, by rw [e1, List.filter_append]; simp [hp]⟩, fun hp => by rw [e1, List.filter_append]; simp [hp]⟩
  have e2 : B.filter p = (B.take i).filter p ++ B[i] :: (B.drop (i + 1)).filter p := by
    conv => lhs; rw [← List.take_append_drop i B, List.drop_eq_getElem_cons hi, List.filter_append, List.filter_cons_of_pos hp]
  rw [e2, List.append_assoc] at h
  have hl : (L.drop m)[((B.take i).filter p).length]? = some B[i] := by
    rw [h, List.getElem?_append_right (Nat.le_refl _)]; simp
  rw [List.getElem?_drop] at hl
  obtain ⟨h1, h2⟩ := List.getElem?_eq_some_iff.1 hl
  exact ⟨h1, h2⟩
/-- What stands while Each goes. -/
structure OldE (w0 W : World) (gd l f B3 p1 p2 : Nat) (fr : Int) (J : Nat → World → Prop) (Ds : List Nat) (m : Nat) (X : World) : Prop where
  j : J m X
  b3 : Boxed X B3 122 (.func (.yield l) #[] #[])
  b4 : Boxed X (B3 + 1) 3 (.int .i64 (f : Nat))
  b1 : Boxed X p1 3 (.int .i64 fr)
  b2 : Boxed X p2 38 (.pointer (some ⟨gd, 0, none⟩))
  sm : ∀ j, j < w0.heap.size → X.heap[j]? = w0.heap[j]?
  sz : W.heap.size ≤ X.heap.size
  nd : Ds.Nodup
  ds : ∀ D ∈ Ds, W.heap.size ≤ D ∧ X.heap[D]? = some (.deferred (some []))
theorem OldE.ab {w0 W : World} {gd l f B3 p1 p2 : Nat} {fr : Int} {J : Nat → World → Prop} {Ds : List Nat} {m : Nat} {X Y : World} {row : Option Nat} {T : Nat} (h : OldE w0 W gd l f B3 p1 p2 fr J Ds m X) (hJ : AbO (fun o => QoE o ∨ o.isCells = false) W.heap.size J) (hg : X.grownBy Y row)
    (hr : ∀ r, row = some r → T ≤ r ∧ ∃ o : Obj, X.heap[r]? = some o ∧ (False ∨ o.isCells = false)) (hT : W.heap.size ≤ T ∧ w0.heap.size ≤ T ∧ B3 + 1 < T ∧ p1 < T ∧ p2 < T ∧ w0.heap.size ≤ X.heap.size) (hD : ∀ D ∈ Ds, D < T) : OldE w0 W gd l f B3 p1 p2 fr J Ds m Y := by
  have key : ∀ j, j < T → j < X.heap.size → Y.heap[j]? = X.heap[j]? := fun j hj hx => hg.block j hx (fun e => by have := (hr j e.symm).1; omega)
  exact ⟨hJ _ _ _ _ h.j hg (fun r e => ⟨by have := (hr r e).1; omega, (hr r e).2.elim fun o ho => ⟨o, ho.1, .inr (ho.2.resolve_left id)⟩⟩), (key _ (by omega) (lt_of_block h.b3)).trans h.b3, (key _ (by omega) (lt_of_block h.b4)).trans h.b4, (key _ (by omega) (lt_of_block h.b1)).trans h.b1, (key _ (by omega) (lt_of_block h.b2)).trans h.b2,
    (fun j hj => (key j (by omega) (by omega)).trans (h.sm j hj)), Nat.le_trans h.sz hg.size, h.nd, fun D hd => ⟨(h.ds D hd).1, (key D (hD D hd) (lt_of_block (h.ds D hd).2)).trans (h.ds D hd).2⟩⟩
theorem OldE.below {w0 W : World} {gd l f B3 p1 p2 : Nat} {fr : Int} {J : Nat → World → Prop} {Ds : List Nat} {m : Nat} {X Y : World} (h : OldE w0 W gd l f B3 p1 p2 fr J Ds m X) (hJ : AbO (fun o => QoE o ∨ o.isCells = false) W.heap.size J) (hz : w0.heap.size ≤ X.heap.size) (hb : Below X.heap.size X Y) : OldE w0 W gd l f B3 p1 p2 fr J Ds m Y :=
  ⟨hJ _ _ _ none h.j ⟨hb.os, hb.tape, hb.output, hb.size, fun k hk _ => hb.block k hk⟩ (fun r e => by cases e), (hb.block _ (lt_of_block h.b3)).trans h.b3, (hb.block _ (lt_of_block h.b4)).trans h.b4, (hb.block _ (lt_of_block h.b1)).trans h.b1, (hb.block _ (lt_of_block h.b2)).trans h.b2,
    (fun j hj => (hb.block j (by omega)).trans (h.sm j hj)), Nat.le_trans h.sz hb.size, h.nd, fun D hd => ⟨(h.ds D hd).1, (hb.block D (lt_of_block (h.ds D hd).2)).trans (h.ds D hd).2⟩⟩
/-- Each's own box of the number behind: turned. -/
theorem OldE.num {w0 W : World} {gd l f B3 p1 p2 : Nat} {fr : Int} {J : Nat → World → Prop} {Ds : List Nat} {m : Nat} {X : World} {B6 : Nat} {v : Value} (h : OldE w0 W gd l f B3 p1 p2 fr J Ds m X) (hJ : AbO (fun o => QoE o ∨ o.isCells = false) W.heap.size J) (h6 : Boxed X B6 3 v) (hlo : W.heap.size ≤ B6) (hw : w0.heap.size ≤ B6) (h3 : B3 + 1 < B6) (hp1 : p1 < B6) (hp2 : p2 < B6) (u : Value) : OldE w0 W gd l f B3 p1 p2 fr J Ds m (X.setCell ⟨B6, 0, none⟩ u) := by
  have key : ∀ j, j ≠ B6 → (X.setCell ⟨B6, 0, none⟩ u).heap[j]? = X.heap[j]? := fun j hj => heap_setCell_other _ _ _ _ (by simpa using hj)
  refine ⟨hJ _ _ _ (some B6) h.j (grownBy_setCell' X B6 u) (fun r e => by cases e; exact ⟨hlo, _, h6, .inl (.inl ⟨v, rfl⟩)⟩), (key _ (by omega)).trans h.b3, (key _ (by omega)).trans h.b4, (key _ (by omega)).trans h.b1, (key _ (by omega)).trans h.b2, (fun j hj => (key j (by omega)).trans (h.sm j hj)), by simpa using h.sz, h.nd, fun D hd => ⟨(h.ds D hd).1, (key D (fun e => ?_)).trans (h.ds D hd).2⟩⟩
  have := (h.ds D hd).2
  rw [e, h6] at this
  cases this
theorem OldE.zz {w0 W : World} {gd l f B3 p1 p2 : Nat} {fr : Int} {J : Nat → World → Prop} {Ds : List Nat} {m : Nat} {X : World} (h : OldE w0 W gd l f B3 p1 p2 fr J Ds m X) (hz : w0.heap.size ≤ W.heap.size) : w0.heap.size ≤ X.heap.size := Nat.le_trans hz h.sz
set_option maxRecDepth 100000 in
set_option maxHeartbeats 1000000 in
theorem each1_in (n : Nat) (l : Nat) (w0 : World) (gd N wd : Nat) (pa : Option Addr) (pc : Nat) (pz : List Int) (ea : Option Addr) (ec : Nat) (eb : List UInt8) (hD : DictM w0 gd N wd pa pc pz ea ec (nums eb))
    (p1 p2 : Nat) (fr : Int) (hfr : -9223372036854775808 ≤ fr ∧ fr ≤ 9223372036854775807)
    (L : List (Nat × List UInt8)) (hL : L = eachF pz wd eb N fr) (J Jx : Nat → World → Prop) (W : World)
    (hY : ∀ i X (h : i < L.length), J i X → YieldAt Fence.wide (n - 1) Try.prog l (encK L[i]) X fun e X' =>
      (e = .returned (.bool true) ∧ J (i + 1) X' ∧ KpO QoE (fun j => j < w0.heap.size ∨ j = p1 ∨ j = p2) W.heap.size X X') ∨ (e = .returned (.bool false) ∧ Jx (i + 1) X' ∧ KeepsFrom W.heap.size X X'))
    (hJ : AbO (fun o => QoE o ∨ o.isCells = false) W.heap.size J) (hJx : AbO (fun o => QoE o ∨ o.isCells = false) W.heap.size Jx)
    (hp1 : W.heap[p1]? = some (.cells #[.int .i64 fr] 3 (0, 0))) (hp2 : W.heap[p2]? = some (.cells #[.pointer (some ⟨gd, 0, none⟩)] 38 (0, 0))) (hsz : w0.heap.size ≤ W.heap.size) (hsame : ∀ j, j < w0.heap.size → W.heap[j]? = w0.heap[j]?) (h0 : J 0 W) :
    CallsIn Fence.wide n Try.prog 76 #[.func (.yield l) #[] #[], .pointer (some ⟨p1, 0, none⟩), .pointer (some ⟨p2, 0, none⟩)] W fun e W' => (∃ v, e = .returned v) ∧
      (J L.length W' ∨ (∃ i, i ≤ L.length ∧ Jx i W')) := by
  refine (callsIn_wide (n := n)).2 ((callsIn_wide (n := 8)).1 ?_)
  have hY := fun i X h hj => yield_wide (m' := 5) (hY i X h hj)
  have l1 := lt_of_block hp1
  have l2 := lt_of_block hp2
  have b1 := cell_of_one hp1
  have b2 := cell_of_one hp2
  obtain ⟨f, hf⟩ : ∃ f : Nat, f = fr.toNat := ⟨_, rfl⟩
  have hfm : max fr 0 = (f : Int) := by omega
  have HF := Lib.hid hf
  refine callsIn_of_wp_marks Try.func76 rfl trivial ?_ rfl
  simp only [Try.ntmps76, List.size_toArray, List.length_cons, List.length_nil, Nat.reduceAdd, Nat.reduceSub, Array.replicate_succ, Array.replicate_zero, List.push_toArray, List.append_toArray, List.nil_append, List.cons_append]
  have HJ := Lib.hid hJ
  have HJX := Lib.hid hJx
  have HY := Lib.hid hY
  have HP1 := Lib.hid hp1
  have HP2 := Lib.hid hp2
  have HS := Lib.hid hsame
  have HD := Lib.hid hD
  have HL := Lib.hid hL
  have H0 := Lib.hid h0
  clear hJ hJx hY hp1 hp2 hsame hD hL h0 hf
  gi_upto_region 2 with fail
  have y3 := (Boxed.new W 122 (.func (.yield l) #[] #[])).alloc (.cells #[.int .i64 (f : Nat)] 3)
  have y4 := Boxed.new (W.alloc (.cells #[.func (.yield l) #[] #[]] 122)) 3 (.int .i64 (f : Nat))
  have hW2 : Below W.heap.size W ((W.alloc (.cells #[.func (.yield l) #[] #[]] 122)).alloc (.cells #[.int .i64 (f : Nat)] 3)) := ((Below.refl _ W).alloc (Nat.le_refl _) _).alloc (by simp) _
  have hJ2 : J 0 ((W.alloc (.cells #[.func (.yield l) #[] #[]] 122)).alloc (.cells #[.int .i64 (f : Nat)] 3)) := HJ.out.own.alloc _ (HJ.out.own.alloc _ H0.out)
  rw [World.size_alloc] at y4
  generalize ((W.alloc (.cells #[.func (.yield l) #[] #[]] 122)).alloc (.cells #[.int .i64 (f : Nat)] 3)) = W2 at y3 y4 hW2 hJ2 ⊢
  obtain ⟨B3, hB3⟩ : ∃ B3, B3 = W.heap.size := ⟨_, rfl⟩
  obtain ⟨nb, hnb⟩ : ∃ nb, nb = (N + 15) / 16 := ⟨_, rfl⟩
  have hnN := HD.out.nN
  have y4c := y4.cell
  rw [← hB3] at y3 y4 y4c ⊢
  have HNB := Lib.hid hnb
  have H2 : Hid (OldE w0 W gd l f B3 p1 p2 fr J [] 0 W2) := Lib.hid ⟨hJ2, y3, y4, (hW2.block _ l1).trans HP1.out, (hW2.block _ l2).trans HP2.out, (fun j hj => (hW2.block _ (by omega)).trans (HS.out j hj)), hW2.size, List.nodup_nil, fun D hD => by cases hD⟩
  have HB3 := Lib.hid hB3
  clear y3 y4 hW2 hJ2 hnb H0 HP1 HP2 HS b1 b2 hB3
  gi_wp2
  -- LOOP
  refine wpIn_loop (fun a X => ∃ (k m : Nat) (Ds : List Nat) (u6 u7 u8 u9 u10 u11 u12 u13 u14 u15 u16 u17 u18 u19 u20 u21 u22 u23 u24 u25 u26 u27 u28 u29 u30 u31 u32 u33 u34 u35 u36 u37 u38 u39 u40 u41 u42 u43 u44 u45 u46 u47 u48 u49 u50 : Value), a = { tmps := #[.func (.yield l) #[] #[], .pointer (some ⟨p1, 0, none⟩), .pointer (some ⟨p2, 0, none⟩), .pointer (some ⟨B3, 0, none⟩), .pointer (some ⟨B3 + 1, 0, none⟩), .int .i64 (k : Nat), u6, u7, u8, u9, u10, u11, u12, u13, u14, u15, u16, u17, u18, u19, u20, u21, u22, u23, u24, u25, u26, u27, u28, u29, u30, u31, u32, u33, u34, u35, u36, u37, u38, u39, u40, u41, u42, u43, u44, u45, u46, u47, u48, u49, u50], defers := marks Ds } ∧ (f / 16 ≤ k ∧ k ≤ f / 16 + nb) ∧ m ≤ L.length ∧ (∃ g, nb ≤ k + g ∧ L.drop m = eachG pz wd eb N f g k) ∧ OldE w0 W gd l f B3 p1 p2 fr J Ds m X) (fun a _ => f / 16 + nb - (intOf (a.tmps.getD 5 undef)).toNat) ?_ ?_
  · refine ⟨f / 16, 0, [], _, _, _, _, _, _, _, _, _, _, _, _, _, _, _, _, _, _, _, _, _, _, _, _, _, _, _, _, _, _, _, _, _, _, _, _, _, _, _, _, _, _, _, _, _, by simp only [marks, List.map_nil]; rfl, ⟨Nat.le_refl _, Nat.le_add_right _ _⟩, Nat.zero_le _, ⟨nb, Nat.le_add_left _ _, ?_⟩, ?_⟩
    · rw [List.drop_zero, HL.out, HNB.out, HF.out]; rfl
    · exact H2.out
  rintro _ X ⟨k, m, Ds, u6, u7, u8, u9, u10, u11, u12, u13, u14, u15, u16, u17, u18, u19, u20, u21, u22, u23, u24, u25, u26, u27, u28, u29, u30, u31, u32, u33, u34, u35, u36, u37, u38, u39, u40, u41, u42, u43, u44, u45, u46, u47, u48, u49, u50, rfl, ⟨hk1, hk2⟩, hm, ⟨g, hg, hdrop⟩, hold⟩
  dsimp only
  have HOLD := Lib.hid hold
  have HDROP := Lib.hid hdrop
  have c2 := hold.b2.cell
  have hDX := HD.out.same hold.sm (hold.zz hsz)
  have k0 := hDX.c0
  have HDX := Lib.hid hDX
  have hbl := (callsIn_wide (n := 7)).2 (blocks_calls X N hnN)
  rw [← HNB.out] at hbl
  have HBL := Lib.hid hbl
  have hNB : N ≤ 16 * nb ∧ nb ≤ 262144 := by have := HNB.out; omega
  obtain ⟨hnb1, hnb2⟩ := hNB
  clear hold hdrop hDX hbl
  by_cases hkn : k < nb
  · obtain ⟨g2, rfl⟩ : ∃ g2, g = g2 + 1 := ⟨g - 1, by omega⟩
    obtain ⟨B, hB⟩ : ∃ B, B = blkN pz wd eb N k := ⟨_, rfl⟩
    obtain ⟨r, hr⟩ : ∃ r, r = (if 16 * k + B.length < min N (16 * (k + 1)) then [] else eachG pz wd eb N f g2 (k + 1)) := ⟨_, rfl⟩
    have hdr : L.drop m = (B.filter fun x => decide (f ≤ x.1)) ++ r := by
      rw [HDROP.out, hr, hB]
      simp only [eachG]
      rw [if_neg (by have := HNB.out; omega)]
    have hat : ∀ j (h : j < B.length), B[j].1 = 16 * k + j := by
      intro j hj
      subst hB
      exact (bkF_at eb N 16 (16 * k) _ [] j hj).1
    have hsm2 : ∀ j (h : j < B.length), B[j].1 < 4194304 ∧ B[j].2.length ≤ 262144 := by
      intro j hj
      subst hB
      have t1 := bkF_at eb N 16 (16 * k) (numT pz wd k wd : Nat) [] j hj
      exact ⟨Nat.lt_of_lt_of_le (Nat.lt_of_le_of_lt (Nat.le_of_eq t1.1) t1.2.1) hnN, t1.2.2⟩
    have hBl : B.length ≤ 16 := by rw [hB]; exact bkF_len eb N 16 _ _ _
    have hqn : k < (N + 15) / 16 := by have := HNB.out; omega
    have hst : ∀ (q1 q2 : Nat) (Wx : World), Wx.heap[q1]? = some (.cells #[.pointer (some ⟨gd, 0, none⟩)] 38 (0, 0)) → Wx.heap[q2]? = some (.cells #[.int .i64 (k : Nat)] 3 (0, 0)) → w0.heap.size ≤ Wx.heap.size → (∀ j, j < w0.heap.size → Wx.heap[j]? = w0.heap[j]?) →
        SeqI Fence.wide 7 Try.prog 72 #[.pointer (some ⟨q1, 0, none⟩), .pointer (some ⟨q2, 0, none⟩)] (B.map encK) (fun _ => False) (fun _ => KpD w0 q1 q2) Wx :=
      fun q1 q2 Wx h1 h2 h3 h4 => blockI_in 7 (by omega) w0 gd N wd pa pc pz ea ec eb HD.out q1 q2 k hqn B hB Wx h1 h2 h3 h4
    have HST := Lib.hid hst
    have HDR := Lib.hid hdr
    have HAT := Lib.hid hat
    have HSM := Lib.hid hsm2
    have HR := Lib.hid hr
    have hlt1 : (k : Int) < (nb : Int) := by omega
    clear hst hdr hat hsm2 hr hB HDROP
    gi_upto_region 6 with (refine ⟨trivial, ?_⟩; gi_at_call 45; (with_reducible refine HBL.out.mono ?_); rintro e w1 ⟨rfl, hb1⟩; (have HB1 := Lib.hid hb1); clear hb1)
    have hold1 : OldE w0 W gd l f B3 p1 p2 fr J Ds m w1 := HOLD.out.below HJ.out (HOLD.out.zz hsz) HB1.out
    have hDs1 : ∀ D ∈ Ds, D < w1.heap.size := fun D h => lt_of_block (hold1.ds D h).2
    have l31 := lt_of_block hold1.b4
    have l11 := lt_of_block hold1.b1
    have l21 := lt_of_block hold1.b2
    have hz1 := hold1.sz
    have hold2 : OldE w0 W gd l f B3 p1 p2 fr J Ds m (w1.alloc (.cells #[.int .i64 ((k : Int) * 16)] 3)) := hold1.below HJ.out (Nat.le_trans hsz hz1) ((Below.refl _ _).alloc (Nat.le_refl _) _)
    have c6 := Boxed.new w1 3 (.int .i64 ((k : Int) * 16))
    have hz3 : (w1.alloc (.cells #[.int .i64 ((k : Int) * 16)] 3)).heap.size = w1.heap.size + 1 := by simp
    clear hold1 HOLD HB1 HBL c2 k0 HDX
    generalize (w1.alloc (.cells #[.int .i64 ((k : Int) * 16)] 3)) = W3 at hold2 c6 hz3 ⊢
    generalize w1.heap.size = B6 at *
    have c2 := hold2.b2.cell
    have HO := Lib.hid hold2
    have C6 := Lib.hid c6
    clear hold2 c6
    gi_wp2_with (refine ⟨trivial, ?_⟩; gi_at_call 53; refine (block_in _ _ _ _).mono ?_; rintro e w' ⟨rfl, rfl⟩)
    have q1 := ((Boxed.new W3 38 (.pointer (some ⟨gd, 0, none⟩))).alloc (.cells #[.int .i64 (k : Nat)] 3))
    have q2 := Boxed.new (W3.alloc (.cells #[.pointer (some ⟨gd, 0, none⟩)] 38)) 3 (.int .i64 (k : Nat))
    have d6 := (C6.out.alloc (.cells #[.pointer (some ⟨gd, 0, none⟩)] 38)).alloc (.cells #[.int .i64 (k : Nat)] 3)
    have hbx : Below W3.heap.size W3 ((W3.alloc (.cells #[.pointer (some ⟨gd, 0, none⟩)] 38)).alloc (.cells #[.int .i64 (k : Nat)] 3)) := ((Below.refl _ _).alloc (Nat.le_refl _) _).alloc (by simp) _
    have hold4 : OldE w0 W gd l f B3 p1 p2 fr J Ds m ((W3.alloc (.cells #[.pointer (some ⟨gd, 0, none⟩)] 38)).alloc (.cells #[.int .i64 (k : Nat)] 3)) := HO.out.below HJ.out (HO.out.zz hsz) hbx
    have hz4 : ((W3.alloc (.cells #[.pointer (some ⟨gd, 0, none⟩)] 38)).alloc (.cells #[.int .i64 (k : Nat)] 3)).heap.size = B6 + 3 := by simp [hz3]
    simp only [World.size_alloc, hz3, Nat.add_assoc, Nat.reduceAdd] at q1 q2 ⊢
    clear hbx HO C6 c2
    generalize ((W3.alloc (.cells #[.pointer (some ⟨gd, 0, none⟩)] 38)).alloc (.cells #[.int .i64 (k : Nat)] 3)) = W4 at q1 q2 d6 hold4 hz4 ⊢
    rename_i Q1 K1 a1
    refine wpIn_rangeFunc_ownI rfl (by omega) (gf := 72) (lb := #[.pointer (some ⟨B6 + 1, 0, none⟩), .pointer (some ⟨B6 + 2, 0, none⟩)]) rfl trivial (enters_of Try.func72 (by kernel_rfl) rfl)
      (HST.out (B6 + 1) (B6 + 2) W4 q1 q2 (hold4.zz hsz) hold4.sm) (fun h k => fun j hj => (k j hj).trans (h j hj)) (fun Y l o o' hl h0 h1 h2 h3 => fun j hj => World.putObj_heap_other (by omega)) (Below.refl _ _) (fun x hx => by obtain ⟨y, _, rfl⟩ := List.mem_map.1 hx; rfl)
      (fun i Y => OldE w0 W gd l f B3 p1 p2 fr J Ds (m + ((B.take i).filter fun x => decide (f ≤ x.1)).length) Y ∧ Boxed Y B6 3 (.int .i64 ((16 * k + i : Nat) : Int)) ∧ Boxed Y (B6 + 1) 38 (.pointer (some ⟨gd, 0, none⟩)) ∧ Boxed Y (B6 + 2) 3 (.int .i64 (k : Nat)) ∧ B6 + 3 ≤ Y.heap.size)
      (fun c i Y => c = .ret ∧ (∃ i', i' ≤ L.length ∧ Jx i' Y) ∧ ∀ D ∈ Ds, Y.heap[D]? = some (.deferred (some [])))
      ?hI ?hIx ⟨by simpa using hold4, by rw [show ((16 * k + 0 : Nat) : Int) = (k : Int) * 16 by omega]; exact d6, q1, q2, by omega⟩
      (axAt B ?fr) (axAt_own _ _) ?assign ?body ?done ?stop
    case hI =>
      rintro i Y Z row ⟨hoY, e6, e7, e8, hzY⟩ hg hr
      have hne : ∀ j, j < B6 + 3 → j < Y.heap.size → Z.heap[j]? = Y.heap[j]? := fun j hj hx => hg.block j hx (fun e => by have := (hr j e.symm).1; omega)
      exact ⟨hoY.ab HJ.out hg hr ⟨by omega, by omega, by omega, by omega, by omega, hoY.zz hsz⟩ (fun D hD => by have := hDs1 D hD; omega), (hne _ (by omega) (lt_of_block e6)).trans e6, (hne _ (by omega) (lt_of_block e7)).trans e7, (hne _ (by omega) (lt_of_block e8)).trans e8, Nat.le_trans hzY hg.size⟩
    case hIx =>
      rintro c i Y Z row ⟨hc, ⟨i', hi', hjx⟩, hds⟩ hg hr
      refine ⟨hc, ⟨i', hi', HJX.out _ _ _ _ hjx hg fun r e => ⟨by have := (hr r e).1; omega, (hr r e).2.elim fun o ho => ⟨o, ho.1, .inr (ho.2.resolve_left id)⟩⟩⟩, fun D hD => ?_⟩
      exact (hg.block D (lt_of_block (hds D hD)) (fun e => by have := (hr D e.symm).1; have := hDs1 D hD; omega)).trans (hds D hD)
    case assign =>
      intro l i hi Y K hI hK
      have hiB : i < B.length := by simpa using hi
      obtain ⟨z, hz⟩ : ∃ z, z = B[i] := ⟨_, rfl⟩
      rw [List.getElem_map, ← hz]
      have HZ := Lib.hid hz
      clear hz
      unfold encK
      gi_wp2
      refine hK _ _ (KeepsFrom.refl _ _) (fun j hj => rfl) hI ?_
      refine axAt_intro hiB HZ.out ?_
      exact Eq.refl _
    case body =>
      rintro l' i hi a' Y hl' ⟨r0, hr0⟩ ⟨hoY, e6, e7, e8, hzY⟩ ⟨hiB, rfl⟩
      have hnum : B[i].1 = 16 * k + i := HAT.out i hiB
      have hsz2 : B[i].2.length ≤ 262144 := (HSM.out i hiB).2
      have hfl := flt_at HDR.out hiB
      have hm2 : ∀ j, m + j < L.length → (hlt : m + j < L.length) → L[m + j] = B[i] → encK L[m + j] = encK B[i] := fun j _ _ h => by rw [h]
      obtain ⟨z, hz⟩ : ∃ z, z = B[i] := ⟨_, rfl⟩
      dsimp only
      rw [← hz] at hnum hsz2 hfl hm2 ⊢
      have lY := (Array.getElem?_eq_some_iff.1 hr0).1
      have b4 := hoY.b4.cell
      have b3 := hoY.b3.cell
      have k6 := e6.cell
      have f6 := frozen_of_row _ _ 0 _ _ e6
      obtain ⟨kx, ux⟩ := z
      simp only at hnum hsz2 hfl hm2 ⊢
      obtain ⟨sx, hsx⟩ : ∃ sx : ByteArray, sx = ⟨ux.toArray⟩ := ⟨_, rfl⟩
      rw [← hsx]
      have henc : encK (kx, ux) = #[.int .i64 (kx : Nat), .string sx] := by rw [hsx]; rfl
      have HO := Lib.hid hoY
      have E6 := Lib.hid e6
      have E7 := Lib.hid e7
      have E8 := Lib.hid e8
      have hkx : kx < 4194320 := by omega
      have HNM := Lib.hid hnum
      clear hz hsx hoY e6 e7 e8 hsz2 hr0 hnum
      by_cases hge : f ≤ kx
      · have hg1 : (f : Int) ≤ (kx : Int) := by omega
        have hdd : decide (f ≤ kx) = true := decide_eq_true hge
        obtain ⟨⟨hlt2, hLe⟩, hcn⟩ := hfl.1 hdd
        have hy := HY.out _ Y hlt2 HO.out.j
        rw [hm2 _ hlt2 hlt2 hLe, henc] at hy
        have HCN := Lib.hid hcn
        have HLT := Lib.hid hlt2
        clear hfl hm2 hLe henc hdd hcn hlt2
        obtain ⟨fn, tmps, assign, bdy, hy1, hR⟩ := hy
        have hR2 : RoundIn (Fence.wide.inRound l') 5 Try.prog l fn tmps assign bdy Y _ := hR
        clear hR
        gi_wp2
        refine hR2.mono ?_
        clear hR2 hy1
        rintro e W5 (⟨rfl, hJ5, hk5⟩ | ⟨rfl, hJx5, hkf5⟩)
        · have h6 : Boxed W5 B6 3 _ := hk5.same _ _ E6.out (.inr (.inl (.inl ⟨_, rfl⟩)))
          have h7 : Boxed W5 (B6 + 1) 38 _ := hk5.same _ _ E7.out (.inr (.inl (.inr (.inl ⟨_, rfl⟩))))
          have h8 : Boxed W5 (B6 + 2) 3 _ := hk5.same _ _ E8.out (.inr (.inl (.inl ⟨_, rfl⟩)))
          have hz5 := hk5.size
          have hzw : w0.heap.size ≤ Y.heap.size := HO.out.zz hsz
          have ho5 : OldE w0 W gd l f B3 p1 p2 fr J Ds (m + ((B.take i).filter fun x => decide (f ≤ x.1)).length + 1) W5 := ⟨hJ5, hk5.same _ _ HO.out.b3 (.inr (.inl (.inr (.inr ⟨_, rfl⟩)))), hk5.same _ _ HO.out.b4 (.inr (.inl (.inl ⟨_, rfl⟩))), hk5.same _ _ HO.out.b1 (.inl (.inr (.inl rfl))), hk5.same _ _ HO.out.b2 (.inl (.inr (.inr rfl))),
            (fun j hj => by
              obtain ⟨o, ho⟩ : ∃ o, Y.heap[j]? = some o := ⟨_, Array.getElem?_eq_getElem (by omega)⟩
              rw [hk5.same _ _ ho (.inl (.inl hj)), ← ho]; exact HO.out.sm j hj), Nat.le_trans HO.out.sz hz5, HO.out.nd, fun D hD => ⟨(HO.out.ds D hD).1, hk5.same _ _ (HO.out.ds D hD).2 (.inr (.inr ⟨(HO.out.ds D hD).1, rfl⟩))⟩⟩
          have hkd : ∀ j, (j < w0.heap.size ∨ j = B6 + 1 ∨ j = B6 + 2) → W5.heap[j]? = Y.heap[j]? := by
            rintro j (hj | rfl | rfl)
            · exact (ho5.sm j hj).trans (HO.out.sm j hj).symm
            · exact h7.trans E7.out.symm
            · exact h8.trans E8.out.symm
          have hkf := hk5.to (B' := W4.heap.size) (by omega)
          have c6 := h6.cell
          have g6 := frozen_of_row _ _ 0 _ _ h6
          have H6 := Lib.hid h6
          have H7 := Lib.hid h7
          have H8 := Lib.hid h8
          have HO5 := Lib.hid ho5
          have HKD := Lib.hid hkd
          have HKF := Lib.hid hkf
          clear h6 h7 h8 ho5 hkd hkf hk5 hJ5 b3 b4 k6 f6
          gi_wp2
          refine ⟨HKF.out.trans ((KeepsOthers.setCell _ _ _).from _), fun j hj => (heap_setCell_other _ _ _ _ (by simp; omega)).trans (HKD.out j hj), ?_, ?_, H7.out.other (by omega) _, H8.out.other (by omega) _, by simp; omega⟩
          · have := HO5.out.num HJ.out H6.out (by omega) (by omega) l31 (by omega) (by omega) (.int .i64 ((kx : Int) + 1))
            rw [Nat.add_assoc, ← HCN.out] at this
            exact this
          · rw [show ((16 * k + (i + 1) : Nat) : Int) = (kx : Int) + 1 by have := HNM.out; omega]
            exact H6.out.set _
        · have hds : ∀ D ∈ Ds, W5.heap[D]? = some (.deferred (some [])) := fun D hD => hkf5.same _ _ (HO.out.ds D hD).1 (HO.out.ds D hD).2 rfl
          have HDS := Lib.hid hds
          have HJX5 := Lib.hid hJx5
          have HKF := Lib.hid hkf5
          have hlt3 := HLT.out
          clear hds hJx5 hkf5 b3 b4 k6 f6
          gi_wp2
          exact ⟨⟨HKF.out.size, fun j o hj ho hc => HKF.out.same j o (by omega) ho hc⟩, rfl, ⟨_, hlt3, HJX5.out⟩, HDS.out⟩
      · have hg1 : decide ((f : Int) ≤ (kx : Int)) = false := decide_eq_false (by omega)
        have hdd : decide (f ≤ kx) = false := decide_eq_false hge
        have hcn := hfl.2 hdd
        have HCN := Lib.hid hcn
        clear hfl hm2 henc hdd hcn
        gi_wp2
        refine ⟨(fun f h => by cases h), ?_⟩
        gi_wp2
        refine ⟨(KeepsOthers.setCell _ _ _).from _, fun j hj => heap_setCell_other _ _ _ _ (by simp; omega), ?_, ?_, E7.out.other (by omega) _, E8.out.other (by omega) _, by simp; omega⟩
        · have := HO.out.num HJ.out E6.out (by omega) (by omega) l31 (by omega) (by omega) (.int .i64 ((kx : Int) + 1))
          rw [← HCN.out] at this
          exact this
        · rw [show ((16 * k + (i + 1) : Nat) : Int) = (kx : Int) + 1 by have := HNM.out; omega]
          exact E6.out.set _
    case done =>
      rintro D Y hD ⟨hoY, e6, e7, e8, hzY⟩ hK
      rw [List.length_map, List.take_length] at hoY
      rw [List.length_map] at e6
      have b2 := hoY.b2.cell
      have k6 := e6.cell
      have hDY := HD.out.same hoY.sm (hoY.zz hsz)
      have k0 := hDY.c0
      have hlD := lt_of_block hK
      obtain ⟨c, hc⟩ : ∃ c, c = (B.filter fun x => decide (f ≤ x.1)).length := ⟨_, rfl⟩
      rw [← hc] at hoY
      have hrest : L.drop (m + c) = r := by
        rw [← List.drop_drop, HDR.out, hc, List.drop_left]
      have hmc : m + c ≤ L.length := by
        have h := congrArg List.length HDR.out
        simp only [List.length_drop, List.length_append] at h
        rw [← hc] at h
        omega
      have hnd2 : (D :: Ds).Nodup := List.nodup_cons.2 ⟨fun h => by have := hDs1 D h; omega, hoY.nd⟩
      have hds2 : ∀ E ∈ D :: Ds, W.heap.size ≤ E ∧ Y.heap[E]? = some (.deferred (some [])) := by
        intro E hE
        rcases List.mem_cons.1 hE with rfl | hE
        · exact ⟨by omega, hK⟩
        · exact hoY.ds E hE
      have HRS := Lib.hid hrest
      have HND := Lib.hid hnd2
      have HDS := Lib.hid hds2
      have HO := Lib.hid hoY
      have hmin : ((min N (16 * (k + 1)) : Nat) : Int) = min (N : Int) (((k : Int) + 1) * 16) := by omega
      obtain ⟨mn, hmn⟩ : ∃ mn, mn = min N (16 * (k + 1)) := ⟨_, rfl⟩
      rw [← hmn] at hmin
      have hmin2 := hmin.symm
      have HR2 : Hid (r = if 16 * k + B.length < mn then [] else eachG pz wd eb N f g2 (k + 1)) := Lib.hid (by rw [hmn]; exact HR.out)
      clear hrest hnd2 hds2 hoY hDY e6 e7 e8 hK hmin hmn hc HR
      have hw1 : IntKind.i64.wrap ((k : Int) + 1) = (k : Int) + 1 := by rw [IntKind.wrap_i64]; omega
      have hw2 : IntKind.i64.wrap (((k : Int) + 1) * 16) = ((k : Int) + 1) * 16 := by rw [IntKind.wrap_i64]; omega
      refine a1 _ _ ?_
      by_cases hsh : 16 * k + B.length < mn
      · have hs1 : 16 * (k : Int) + (B.length : Int) < (mn : Int) := by omega
        have hend : m + c = L.length := by
          have h := HR2.out
          rw [if_pos hsh] at h
          have h2 := HRS.out
          rw [h] at h2
          have := List.drop_eq_nil_iff.1 h2
          omega
        have HEND := Lib.hid hend
        have hLm := HEND.out
        clear hend hsh
        gi_upto_region 11 with fail
        gi_quiet_th (fail)
        gi_wp2
        have hjz : J L.length (Y.drewN nq) := by rw [← HEND.out]; exact (HO.out.below HJ.out (HO.out.zz hsz) (below_drewN (Below.refl _ _) nq)).j
        show LeavesInM Fence.wide 8 _ _ _ _ (marks (D :: Ds)) .returning _
        exact leavesMarks (J L.length) W.heap.size (fun Z E h hE hh => HJ.out.own.putObj _ h hE hh rfl) (fun Z _ => results_none rfl _ _ _) (fun Z h => ⟨⟨_, rfl⟩, .inl h⟩) (D :: Ds) (Y.drewN nq) HND.out (fun E h => HDS.out E h) hjz
      · have hs1 : decide (16 * (k : Int) + (B.length : Int) < (mn : Int)) = false := decide_eq_false (by omega)
        have hrr : L.drop (m + c) = eachG pz wd eb N f g2 (k + 1) := by
          rw [HRS.out, HR2.out, if_neg hsh]
        have HRR := Lib.hid hrr
        clear hrr hsh
        gi_upto_region 11 with fail
        gi_quiet_th (fail)
        gi_wp2
        have hoz := HO.out.below HJ.out (HO.out.zz hsz) (below_drewN (Below.refl Y.heap.size Y) nq)
        refine ⟨⟨k + 1, m + c, D :: Ds, _,_,_,_,_,_,_,_,_,_,_,_,_,_,_,_,_,_,_,_,_,_,_,_,_,_,_,_,_,_,_,_,_,_,_,_,_,_,_,_,_,_,_,_,_, rfl, ⟨by omega, by omega⟩, hmc, ⟨g2, by omega, HRR.out⟩, hoz.j, hoz.b3, hoz.b4, hoz.b1, hoz.b2, hoz.sm, hoz.sz, HND.out, fun E h => HDS.out E h⟩, ?_⟩
        simp [intOf]; omega
    case stop =>
      rintro D c i Y hD hi ⟨rfl, ⟨i', hi', hJx'⟩, hds⟩ hK
      have HX := Lib.hid hJx'
      have HDS := Lib.hid hds
      have HK := Lib.hid hK
      clear hJx' hds hK
      gi_wp2
      show LeavesInM Fence.wide 8 _ _ _ _ (marks (D :: Ds)) .returning _
      refine leavesMarks (fun Z => ∃ i, i ≤ L.length ∧ Jx i Z) W.heap.size (fun Z E ⟨i, h1, h2⟩ hE hh => ⟨i, h1, HJX.out.own.putObj _ h2 hE hh rfl⟩) (fun Z _ => results_none rfl _ _ _) (fun Z h => ⟨⟨_, rfl⟩, .inr h⟩) (D :: Ds) Y (List.nodup_cons.2 ⟨fun h => by have := hDs1 D h; omega, hold4.nd⟩) ?_ ⟨i', hi', HX.out⟩
      intro E hE
      rcases List.mem_cons.1 hE with rfl | hE
      · exact ⟨by omega, HK.out⟩
      · exact ⟨(hold4.ds E hE).1, HDS.out E hE⟩
  · have hL0 : m = L.length := by
      have h := HDROP.out
      have he : eachG pz wd eb N f g k = [] := by
        cases g with
        | zero => rfl
        | succ g => simp only [eachG]; rw [if_pos (by have := HNB.out; omega)]
      rw [he] at h
      have := List.drop_eq_nil_iff.1 h
      omega
    have hlt1 : decide ((k : Int) < (nb : Int)) = false := decide_eq_false (by omega)
    have HL0 := Lib.hid hL0
    clear hL0 HDROP
    gi_wp2_with (refine ⟨trivial, ?_⟩; gi_at_call 45; (with_reducible refine HBL.out.mono ?_); rintro e w1 ⟨rfl, hb1⟩; (have HB1 := Lib.hid hb1); clear hb1)
    show LeavesInM Fence.wide 8 _ _ _ _ _ .returning _
    have hj1 : J L.length w1 := by rw [← HL0.out]; exact HJ.out _ _ _ none HOLD.out.j ⟨HB1.out.os, HB1.out.tape, HB1.out.output, HB1.out.size, fun k hk _ => HB1.out.block k hk⟩ (fun r e => by cases e)
    exact leavesMarks (J L.length) W.heap.size (fun Y D h hD hh => HJ.out.own.putObj _ h hD hh rfl) (fun Y _ => results_none rfl _ _ _) (fun Y h => ⟨⟨_, rfl⟩, .inl h⟩) Ds w1 HOLD.out.nd (fun D h => ⟨(HOLD.out.ds D h).1, (HB1.out.block _ (lt_of_block (HOLD.out.ds D h).2)).trans (HOLD.out.ds D h).2⟩) hj1
end Go.Proofs.Ytjgcmnppiaikcaa
/- What walked gathers: boxes and rows beside an iterator that turns boxes of its own; sameSeen. -/
namespace Go.Tk
open Go Go.RowKit
/-- An entry and its number, as cells. -/
def sawC (x : Nat × List UInt8) : List Value := [.int .i64 (x.1 : Nat), .string ⟨x.2.toArray⟩]
def sawCs (L : List (Nat × List UInt8)) : List Value := L.flatMap sawC
theorem sawCs_snoc (L : List (Nat × List UInt8)) (x : Nat × List UInt8) : sawCs (L ++ [x]) = sawCs L ++ sawC x := by simp [sawCs]
theorem sawCs_len (L : List (Nat × List UInt8)) : (sawCs L).length = L.length * 2 := by
  induction L with
  | nil => rfl
  | cons x L ih => simp [sawCs, sawC] at ih ⊢; omega
theorem sawCs_at : ∀ (L : List (Nat × List UInt8)) (k : Nat) (h : k < L.length), (sawCs L)[k * 2]? = some (.int .i64 (L[k].1 : Nat)) ∧ (sawCs L)[k * 2 + 1]? = some (.string ⟨L[k].2.toArray⟩)
  | [], k, h => by simp at h
  | x :: L, 0, _ => by simp [sawCs, sawC]
  | x :: L, k + 1, h => by
    have ih := sawCs_at L k (by simpa using h)
    have e : sawCs (x :: L) = .int .i64 (x.1 : Nat) :: .string ⟨x.2.toArray⟩ :: sawCs L := by simp [sawCs, sawC]
    rw [e, show (k + 1) * 2 = k * 2 + 1 + 1 by omega]
    simpa using ih
/-- A box, a row of owned cells: they abide the turn of blocks of another kind. -/
theorem box_ab {Q : Obj → Prop} {X Y : World} {B : Nat} {T : TypeId} {v : Value} {row : Option Nat} (h : Boxed X B T v) (hT : ∀ u, ¬ Q (.cells #[u] T (0, 0))) (hg : X.grownBy Y row)
    (hr : ∀ r, row = some r → ∃ o : Obj, X.heap[r]? = some o ∧ (Q o ∨ o.isCells = false)) : Boxed Y B T v := by
  refine (hg.block B (lt_of_block h) (fun e => ?_)).trans h
  obtain ⟨o, ho, hq⟩ := hr B e.symm
  rw [show X.heap[B]? = _ from h] at ho
  cases ho
  rcases hq with hq | hq
  · exact hT _ hq
  · cases hq
theorem row_ab {Q : Obj → Prop} {X Y : World} {n₀ e size : Nat} {v : Value} {k : Nat} {xs : List Value} {row : Option Nat} (h : X.ownsRow n₀ e size v k xs) (hT : ∀ cs f, ¬ Q (.cells cs e f)) (hg : X.grownBy Y row)
    (hr : ∀ r, row = some r → ∃ o : Obj, X.heap[r]? = some o ∧ (Q o ∨ o.isCells = false)) : Y.ownsRow n₀ e size v k xs := by
  rcases h with ⟨a, ⟨e1, e2⟩ | ⟨g, cap, cur, e1, e2, e3, e4⟩⟩
  · exact ⟨a, .inl ⟨e1, e2⟩⟩
  · refine ⟨a, .inr ⟨g, cap, cur, e1, e2, ?_, e4⟩⟩
    refine (hg.block g (lt_of_block e3) (fun e => ?_)).trans e3
    obtain ⟨o, ho, hq⟩ := hr g e.symm
    rw [e3] at ho
    cases ho
    rcases hq with hq | hq
    · exact hT _ _ hq
    · cases hq
/-- A round that appends to a row of its own and stores the slice into a box keeps whatever is of another kind. -/
theorem app_keeps {Q : Obj → Prop} {X w1 : World} {n₀ B : Nat} {t e : TypeId} {size : Nat} {v v' : Value} {k : Nat} {xs : List Value} {tmp : Obj} (hv : Boxed X B t v) (hT : ∀ u, ¬ Q (.cells #[u] t (0, 0))) (hE : ∀ cs f, ¬ Q (.cells cs e f))
    (hrow : X.ownsRow n₀ e size v k xs) (hgrow : (X.alloc tmp).grownBy w1 v.ownBlock) (j : Nat) (o : Obj) (ho : X.heap[j]? = some o) (hq : Q o ∨ o.isCells = false) : (w1.setCell ⟨B, 0, none⟩ v').heap[j]? = some o := by
  have hjB : j ≠ B := fun h => by
    subst h
    rw [show X.heap[j]? = _ from hv] at ho
    cases ho
    rcases hq with hq | hq
    · exact hT _ hq
    · cases hq
  have hjr : v.ownBlock ≠ some j := fun h => by
    rcases hrow.2 with ⟨rfl, _⟩ | ⟨g, cap, cur, rfl, hb, hgb, _⟩
    · simp [Value.ownBlock] at h
    · obtain rfl : g = j := by simpa [Value.ownBlock] using h
      rw [hgb] at ho
      cases ho
      rcases hq with hq | hq
      · exact hE _ _ hq
      · cases hq
  have hlt := (Array.getElem?_eq_some_iff.1 ho).1
  rw [heap_setCell_other _ _ _ _ (by simpa using hjB), hgrow.block j (by simp; omega) (fun e => hjr e.symm)]
  exact (Below.heap_alloc _ _ _ hlt).trans ho
end Go.Tk
namespace Go.Proofs.Ytjgcmnppiaikcaa
open Go.RowKit Go.Shelf Go.Tk
attribute [local go_sem] Oper.semAt_some
theorem qoe_box (u : Value) : ¬ QoE (.cells #[u] 64 (0, 0)) := by
  rintro (⟨v, h⟩ | ⟨v, h⟩ | ⟨v, h⟩) <;> (injection h with h1 h2 h3; exact absurd h2 (by decide))
theorem qoe_row (cs : Array Value) (f : Nat × Nat) : ¬ QoE (.cells cs 68 f) := by
  rintro (⟨v, h⟩ | ⟨v, h⟩ | ⟨v, h⟩) <;> (injection h with h1 h2 h3; exact absurd h2 (by decide))
/-- Each's iterator by the numbers of its rounds. -/
theorem eachI_in (n : Nat) (w0 : World) (gd N wd : Nat) (pa : Option Addr) (pc : Nat) (pz : List Int) (ea : Option Addr) (ec : Nat) (eb : List UInt8) (hD : DictM w0 gd N wd pa pc pz ea ec (nums eb))
    (p1 p2 : Nat) (fr : Int) (hfr : -9223372036854775808 ≤ fr ∧ fr ≤ 9223372036854775807) (L : List (Nat × List UInt8)) (hL : L = eachF pz wd eb N fr) (W : World)
    (hp1 : W.heap[p1]? = some (.cells #[.int .i64 fr] 3 (0, 0))) (hp2 : W.heap[p2]? = some (.cells #[.pointer (some ⟨gd, 0, none⟩)] 38 (0, 0))) (hsz : w0.heap.size ≤ W.heap.size) (hsame : ∀ j, j < w0.heap.size → W.heap[j]? = w0.heap[j]?) :
    SeqI Fence.wide n Try.prog 76 #[.pointer (some ⟨p1, 0, none⟩), .pointer (some ⟨p2, 0, none⟩)] (L.map encK) (fun o => QoE o ∨ o.isCells = false) (KpO QoE (fun j => j < w0.heap.size ∨ j = p1 ∨ j = p2)) W := by
  intro l J Jx W' hW' hA hAx hY h0
  rw [List.length_map]
  refine each1_in n l w0 gd N wd pa pc pz ea ec eb hD p1 p2 fr hfr L hL J Jx W' ?_ hA hAx ((hW'.block _ (lt_of_block hp1)).trans hp1) ((hW'.block _ (lt_of_block hp2)).trans hp2) (Nat.le_trans hsz hW'.size) (fun j hj => (hW'.block _ (by omega)).trans (hsame j hj)) h0
  intro i X hi hJ
  have := hY i X (by rw [List.length_map]; exact hi) hJ
  rw [List.getElem_map] at this
  exact this
theorem each_in (n : Nat) (gd : Nat) (fr : Int) (w : World) :
    CallsIn Fence.wide n Try.prog 58 #[.pointer (some ⟨gd, 0, none⟩), .int .i64 fr] w fun e w' => e = .returned (.func (.func 76) #[] #[.pointer (some ⟨w.heap.size + 1, 0, none⟩), .pointer (some ⟨w.heap.size, 0, none⟩)]) ∧ w' = (w.alloc (.cells #[.pointer (some ⟨gd, 0, none⟩)] 38)).alloc (.cells #[.int .i64 fr] 3) := by
  refine callsIn_of_wp Try.func58 rfl trivial ?_ rfl
  simp only [Try.ntmps58, List.size_toArray, List.length_cons, List.length_nil, Nat.reduceAdd, Nat.reduceSub, Array.replicate_succ, Array.replicate_zero, List.push_toArray, List.append_toArray, List.nil_append, List.cons_append]
  gi_wp2
  go_ret
  exact ⟨by simp, rfl⟩
theorem saw_fields : Try.prog.underlying 68 = some (.struct (Try.prog.fieldsOf 68)) := by kernel_rfl
theorem saw_stood : Try.prog.stoodInHeld 68 = false := by kernel_rfl
theorem saw_guard : Try.prog.eqGuardType Try.prog.depth 68 = false := by kernel_rfl
theorem saw_neq (a : Int) (s : ByteArray) (w : World) : (binOp .neq 68 (.agg #[.int .i64 a, .string s]) (.agg #[.int .i64 a, .string s])).run Try.prog w = .ok (.bool false) w := by
  rw [run_neq_struct, run_equalIn_agg w 9999 _ _ _ saw_fields saw_stood]
  unfold Program.fieldsOf
  rw [Try.underlying68]
  simp [go_sem, Op.eqFields, part]
theorem saw_guarded (op : BinOp) (x y : Operand) (p q : Array Value) (w : World) : (eqGuard op 68 x y (.agg p) (.agg q)).run Try.prog w = .ok () w := run_eqGuard_agg w op _ x y p q saw_guard
set_option maxHeartbeats 1000000 in
theorem sameSaw_calls (w : World) (n₀ n₁ : Nat) (v1 v2 : Value) (L : List (Nat × List UInt8)) (hL : L.length ≤ 9223372036854775807) (h1 : w.ownsRow n₀ 68 2 v1 L.length (sawCs L)) (h2 : w.ownsRow n₁ 68 2 v2 L.length (sawCs L)) :
    Calls Try.prog 52 #[v1, v2] w fun e w' => e = .returned (.bool true) ∧ ∃ n, w' = w.drewN n := by
  obtain ⟨a1, c1, rfl⟩ := ownsRow_slice h1
  obtain ⟨a2, c2, rfl⟩ := ownsRow_slice h2
  have hat : ∀ k, (hk : k < L.length) → ∃ g1 g2, a1 = some ⟨g1, 0, none⟩ ∧ a2 = some ⟨g2, 0, none⟩ ∧ w.cell? ⟨g1, k * 2, none⟩ = some (.int .i64 (L[k].1 : Nat)) ∧ w.cell? ⟨g1, k * 2 + 1, none⟩ = some (.string ⟨L[k].2.toArray⟩) ∧
      w.cell? ⟨g2, k * 2, none⟩ = some (.int .i64 (L[k].1 : Nat)) ∧ w.cell? ⟨g2, k * 2 + 1, none⟩ = some (.string ⟨L[k].2.toArray⟩) := by
    intro k hk
    have hs := sawCs_at L k hk
    rcases h1.2 with ⟨hv, h0⟩ | ⟨g1, cap1, cur1, hv1, _⟩
    · omega
    rcases h2.2 with ⟨hv, h0⟩ | ⟨g2, cap2, cur2, hv2, _⟩
    · omega
    simp at hv1 hv2
    obtain ⟨rfl, rfl⟩ := hv1
    obtain ⟨rfl, rfl⟩ := hv2
    have x1 := World.ownsRow.cells h1 (g := g1) rfl
    have x2 := World.ownsRow.cells h2 (g := g2) rfl
    refine ⟨g1, g2, rfl, rfl, ?_, ?_, ?_, ?_⟩
    · have := x1 (k * 2) _ hs.1; rw [Addr.add_lit, Nat.zero_add] at this; exact this
    · have := x1 (k * 2 + 1) _ hs.2; rw [Addr.add_lit, Nat.zero_add] at this; exact this
    · have := x2 (k * 2) _ hs.1; rw [Addr.add_lit, Nat.zero_add] at this; exact this
    · have := x2 (k * 2 + 1) _ hs.2; rw [Addr.add_lit, Nat.zero_add] at this; exact this
  have HAT := Lib.hid hat
  have hne : ((L.length : Int) != (L.length : Int)) = false := by simp
  obtain ⟨N, hN⟩ : ∃ N, N = L.length := ⟨_, rfl⟩
  rw [← hN] at hne hL ⊢
  have HN := Lib.hid hN
  clear hat h1 h2 hN
  have hgd := saw_guarded
  go_enter Try.func52, Try.ntmps52
  go_wp2
  go_loopw [5] (fun i wr => ∃ k n, k ≤ N ∧ i = .int .i64 (k : Nat) ∧ wr = w.drewN n) (fun i _ => N - (intOf i).toNat)
  case atStart => exact ⟨0, 0, Nat.zero_le _, rfl, rfl⟩
  case round =>
    obtain ⟨k, n, hk, rfl, rfl⟩ := hrel
    by_cases hlt : k < N
    · obtain ⟨g1, g2, rfl, rfl, y1, y2, y3, y4⟩ := HAT.out k (by have := HN.out; omega)
      obtain ⟨p, hp⟩ : ∃ p : Int, p = ((L[k]'(by have := HN.out; omega)).1 : Nat) := ⟨_, rfl⟩
      obtain ⟨q, hq⟩ : ∃ q : ByteArray, q = ⟨(L[k]'(by have := HN.out; omega)).2.toArray⟩ := ⟨_, rfl⟩
      rw [← hp] at y1 y3
      rw [← hq] at y2 y4
      have hnq := saw_neq p q
      clear hp hq
      go_wp2_with fail
      go_quiet (fail)
      go_wp2
      go_roundw
      case rel => exact ⟨k + 1, _, by omega, by go_num, rfl⟩
      case measure => simp [intOf]; omega
    · go_wp2
      go_ret
      exact ⟨rfl, _, rfl⟩
end Go.Proofs.Ytjgcmnppiaikcaa
/- walked: what Each goes through, so many at most; twice. -/
namespace Go.Tk
open Go Go.RowKit
theorem KpO.refl (Q : Obj → Prop) (S : Nat → Prop) (B : Nat) (X : World) : KpO Q S B X X := ⟨Nat.le_refl _, fun _ _ h _ => h⟩
theorem cell_two_newD (W : World) (u v : Value) (e : TypeId) : ∀ j x, [u, v][j]? = some x → (W.alloc (.cells #[u, v] e)).cell? ((⟨W.heap.size, 0, none⟩ : Addr).add j) = some x := by
  intro j x hx
  match j, hx with
  | 0, hx => obtain rfl : u = x := by simpa using hx
             rw [Addr.add_lit, World.cell?_alloc_at _ _ _ _ rfl]; rfl
  | 1, hx => obtain rfl : v = x := by simpa using hx
             rw [Addr.add_lit, World.cell?_alloc_at _ _ _ _ rfl]; rfl
  | j + 2, hx => simp at hx
theorem Carry.abd {W X Y : World} {B : Nat} {row : Option Nat} (h : Carry W B X) (hg : X.grownBy Y row) (hr : ∀ r, row = some r → W.heap.size ≤ r) : Carry W B Y :=
  ⟨Nat.le_trans h.1 hg.size, fun j hj hB => (hg.block j (by have := h.1; omega) (fun e => by have := hr j e.symm; omega)).trans (h.2 j hj hB)⟩
/-- Between two rounds: the box holds what has come. -/
def WInv (T e : TypeId) (n₀ B M : Nat) (L : List (Nat × List UInt8)) (i : Nat) (W : World) : Prop := ∃ v, Boxed W B T v ∧ W.ownsRow n₀ e 2 v i (sawCs (L.take i)) ∧ i ≤ M
/-- The loop has been left: all but the last have been taken. -/
def WOut (T e : TypeId) (n₀ B M : Nat) (L : List (Nat × List UInt8)) (i : Nat) (W : World) : Prop := ∃ v, Boxed W B T v ∧ W.ownsRow n₀ e 2 v M (sawCs (L.take M)) ∧ i = M + 1
/-- Behind the loop, whichever way it ended. -/
def WEnd (T e : TypeId) (n₀ B M : Nat) (L : List (Nat × List UInt8)) (W : World) : Prop := ∃ v, Boxed W B T v ∧ W.ownsRow n₀ e 2 v (L.take M).length (sawCs (L.take M))
theorem WInv.fin {T e : TypeId} {n₀ B M : Nat} {L : List (Nat × List UInt8)} {W : World} (h : WInv T e n₀ B M L L.length W) : WEnd T e n₀ B M L W := by
  obtain ⟨v, h1, h2, h3⟩ := h
  refine ⟨v, h1, ?_⟩
  rw [List.take_of_length_le h3]
  rw [List.take_length] at h2
  exact h2
theorem WOut.fin {T e : TypeId} {n₀ B M i : Nat} {L : List (Nat × List UInt8)} {W : World} (h : WOut T e n₀ B M L i W) (hi : i ≤ L.length) : WEnd T e n₀ B M L W := by
  obtain ⟨v, h1, h2, h3⟩ := h
  refine ⟨v, h1, ?_⟩
  rw [List.length_take, Nat.min_eq_left (by omega)]
  exact h2
end Go.Tk
namespace Go.Proofs.Ytjgcmnppiaikcaa
open Go.RowKit Go.Shelf Go.Tk
attribute [local go_sem] Oper.semAt_some
theorem Try.infoSaw : (Try.prog.info? 68).map (fun i => (i.zero, i.size, i.bytes)) = some (some (.agg #[.int .i64 0, .string ⟨#[]⟩]), 2, 24) := by kernel_rfl
theorem WInv.ab {n₀ B M i : Nat} {L : List (Nat × List UInt8)} {X Y : World} {row : Option Nat} (h : WInv 64 68 n₀ B M L i X) (hg : X.grownBy Y row) (hr : ∀ r, row = some r → ∃ o : Obj, X.heap[r]? = some o ∧ ((QoE o ∨ o.isCells = false) ∨ o.isCells = false)) : WInv 64 68 n₀ B M L i Y := by
  obtain ⟨v, h1, h2, h3⟩ := h
  have hr2 : ∀ r, row = some r → ∃ o : Obj, X.heap[r]? = some o ∧ (QoE o ∨ o.isCells = false) := fun r e => (hr r e).elim fun o ho => ⟨o, ho.1, ho.2.elim id .inr⟩
  exact ⟨v, box_ab h1 qoe_box hg hr2, row_ab h2 qoe_row hg hr2, h3⟩
theorem WOut.ab {n₀ B M i : Nat} {L : List (Nat × List UInt8)} {X Y : World} {row : Option Nat} (h : WOut 64 68 n₀ B M L i X) (hg : X.grownBy Y row) (hr : ∀ r, row = some r → ∃ o : Obj, X.heap[r]? = some o ∧ ((QoE o ∨ o.isCells = false) ∨ o.isCells = false)) : WOut 64 68 n₀ B M L i Y := by
  obtain ⟨v, h1, h2, h3⟩ := h
  have hr2 : ∀ r, row = some r → ∃ o : Obj, X.heap[r]? = some o ∧ (QoE o ∨ o.isCells = false) := fun r e => (hr r e).elim fun o ho => ⟨o, ho.1, ho.2.elim id .inr⟩
  exact ⟨v, box_ab h1 qoe_box hg hr2, row_ab h2 qoe_row hg hr2, h3⟩
theorem eachG_len (pz : List Int) (wd : Nat) (eb : List UInt8) (n fr : Nat) : ∀ f k, (eachG pz wd eb n fr f k).length ≤ 16 * f
  | 0, _ => by simp [eachG]
  | f + 1, k => by
    have h1 : (blkN pz wd eb n k).length ≤ 16 := bkF_len eb n 16 _ _ _
    have h2 := List.length_filter_le (fun x : Nat × List UInt8 => decide (fr ≤ x.1)) (blkN pz wd eb n k)
    have h3 := eachG_len pz wd eb n fr f (k + 1)
    simp only [eachG]
    split
    · simp
    · rw [List.length_append]
      split
      · simp only [List.length_nil]; omega
      · omega
set_option maxRecDepth 100000 in
set_option maxHeartbeats 4000000 in
theorem walked_calls (w : World) (gd N wd : Nat) (pa : Option Addr) (pc : Nat) (pz : List Int) (ea : Option Addr) (ec : Nat) (eb : List UInt8) (hD : DictM w gd N wd pa pc pz ea ec (nums eb)) (fr : Int) (hfr : -9223372036854775808 ≤ fr ∧ fr ≤ 9223372036854775807) (M : Nat) (hM : M ≤ 9223372036854775807) (L : List (Nat × List UInt8)) (hL : L = eachF pz wd eb N fr) :
    Calls Try.prog 28 #[.pointer (some ⟨gd, 0, none⟩), .int .i64 fr, .int .i64 (M : Nat)] w fun e w' => ∃ v, e = .returned (.tuple #[v, .bool true]) ∧ w'.ownsRow w.heap.size 68 2 v (L.take M).length (sawCs (L.take M)) ∧ Below w.heap.size w w' := by
  obtain ⟨i0, hi, hz0, hz1, hz2⟩ := info_parts Try.infoSaw
  have HI := Lib.hid hi
  have HZ0 := Lib.hid hz0
  have HZ1 := Lib.hid hz1
  have HZ2 := Lib.hid hz2
  clear hi hz0 hz1 hz2
  have hLl : L.length ≤ 4194320 := by
    rw [hL]
    have h1 := eachG_len pz wd eb N fr.toNat ((N + 15) / 16) (fr.toNat / 16)
    have h2 := hD.nN
    unfold eachF; omega
  have hst : ∀ (V : World), V.heap[w.heap.size + 4]? = some (.cells #[.int .i64 fr] 3 (0, 0)) → V.heap[w.heap.size + 3]? = some (.cells #[.pointer (some ⟨gd, 0, none⟩)] 38 (0, 0)) → w.heap.size ≤ V.heap.size → (∀ j, j < w.heap.size → V.heap[j]? = w.heap[j]?) →
      SeqI Fence.wide 5 Try.prog 76 #[.pointer (some ⟨w.heap.size + 4, 0, none⟩), .pointer (some ⟨w.heap.size + 3, 0, none⟩)] (L.map encK) (fun o => QoE o ∨ o.isCells = false) (KpO QoE (fun j => j < w.heap.size ∨ j = w.heap.size + 4 ∨ j = w.heap.size + 3)) V :=
    fun V h4 h3 h1 h2 => eachI_in 5 w gd N wd pa pc pz ea ec eb hD (w.heap.size + 4) (w.heap.size + 3) fr hfr L hL V h4 h3 h1 h2
  have HST := Lib.hid hst
  clear hst hL hD
  refine (callsIn_wide (n := 6)).1 ?_
  refine callsIn_of_wp_marks Try.func28 rfl trivial ?_ rfl
  simp only [Try.ntmps28, List.size_toArray, List.length_cons, List.length_nil, Nat.reduceAdd, Nat.reduceSub, Array.replicate_succ, Array.replicate_zero, List.push_toArray, List.append_toArray, List.nil_append, List.cons_append]
  gi_wp2_with (refine ⟨trivial, ?_⟩; gi_at_call 58; refine (each_in _ _ _ _).mono ?_; rintro e w' ⟨rfl, rfl⟩)
  have b0 := ((((Boxed.new w 3 (.int .i64 (M : Nat))).alloc (.cells #[.slice none 0 0] 64)).alloc (.cells #[.slice none 0 0] 64)).alloc (.cells #[.pointer (some ⟨gd, 0, none⟩)] 38)).alloc (.cells #[.int .i64 fr] 3)
  have b1 := (((Boxed.new (w.alloc (.cells #[.int .i64 (M : Nat)] 3)) 64 (.slice none 0 0)).alloc (.cells #[.slice none 0 0] 64)).alloc (.cells #[.pointer (some ⟨gd, 0, none⟩)] 38)).alloc (.cells #[.int .i64 fr] 3)
  have b2 := ((Boxed.new ((w.alloc (.cells #[.int .i64 (M : Nat)] 3)).alloc (.cells #[.slice none 0 0] 64)) 64 (.slice none 0 0)).alloc (.cells #[.pointer (some ⟨gd, 0, none⟩)] 38)).alloc (.cells #[.int .i64 fr] 3)
  have b3 := (Boxed.new (((w.alloc (.cells #[.int .i64 (M : Nat)] 3)).alloc (.cells #[.slice none 0 0] 64)).alloc (.cells #[.slice none 0 0] 64)) 38 (.pointer (some ⟨gd, 0, none⟩))).alloc (.cells #[.int .i64 fr] 3)
  have b4 := Boxed.new ((((w.alloc (.cells #[.int .i64 (M : Nat)] 3)).alloc (.cells #[.slice none 0 0] 64)).alloc (.cells #[.slice none 0 0] 64)).alloc (.cells #[.pointer (some ⟨gd, 0, none⟩)] 38)) 3 (.int .i64 fr)
  have hB : Below w.heap.size w (((((w.alloc (.cells #[.int .i64 (M : Nat)] 3)).alloc (.cells #[.slice none 0 0] 64)).alloc (.cells #[.slice none 0 0] 64)).alloc (.cells #[.pointer (some ⟨gd, 0, none⟩)] 38)).alloc (.cells #[.int .i64 fr] 3)) := (((((Below.refl _ w).alloc (Nat.le_refl _) _).alloc (by simp) _).alloc (by simp; omega) _).alloc (by simp; omega) _).alloc (by simp; omega) _
  have hsz : (((((w.alloc (.cells #[.int .i64 (M : Nat)] 3)).alloc (.cells #[.slice none 0 0] 64)).alloc (.cells #[.slice none 0 0] 64)).alloc (.cells #[.pointer (some ⟨gd, 0, none⟩)] 38)).alloc (.cells #[.int .i64 fr] 3)).heap.size = w.heap.size + 5 := by simp
  simp only [World.size_alloc, Nat.add_assoc, Nat.reduceAdd] at b0 b1 b2 b3 b4 ⊢
  generalize (((((w.alloc (.cells #[.int .i64 (M : Nat)] 3)).alloc (.cells #[.slice none 0 0] 64)).alloc (.cells #[.slice none 0 0] 64)).alloc (.cells #[.pointer (some ⟨gd, 0, none⟩)] 38)).alloc (.cells #[.int .i64 fr] 3)) = W0 at b0 b1 b2 b3 b4 hB hsz ⊢
  rename_i Q1 K1 a1
  have after : ∀ (D : Nat) (W : World), W0.heap.size ≤ D → WEnd 64 68 (w.heap.size + 5) (w.heap.size + 1) M L W → Carry W0 (w.heap.size + 1) W → Below w.heap.size w W →
      W.heap[D]? = some (.deferred (some [])) → K1 { tmps := #[.pointer (some ⟨gd, 0, none⟩), .int .i64 fr, .int .i64 (M : Nat), undef, undef, .pointer (some ⟨w.heap.size, 0, none⟩), .slice none 0 0, .bool false, .pointer (some ⟨w.heap.size + 1, 0, none⟩), .pointer (some ⟨w.heap.size + 2, 0, none⟩), .func (.func 76) #[] #[.pointer (some ⟨w.heap.size + 4, 0, none⟩), .pointer (some ⟨w.heap.size + 3, 0, none⟩)], undef, undef, undef, undef, .pointer (some ⟨gd, 0, none⟩), .int .i64 fr, .func (.func 76) #[] #[.pointer (some ⟨w.heap.size + 4, 0, none⟩), .pointer (some ⟨w.heap.size + 3, 0, none⟩)], .func (.func 76) #[] #[.pointer (some ⟨w.heap.size + 4, 0, none⟩), .pointer (some ⟨w.heap.size + 3, 0, none⟩)], undef, undef, undef, undef, undef, undef, undef, undef, undef, undef, undef, undef, undef, undef, undef, undef, undef, undef, undef, undef, undef, undef, undef, undef, undef, undef, undef, undef, undef], defers := [{ target := .collected D, args := #[] }] } W := by
    rintro D W hD ⟨v1, hv1, hrow1⟩ hCa0 hBW hK
    have c0 := hCa0.box b0 (by omega)
    have c2 := hCa0.box b2 (by omega)
    have c3 := hCa0.box b3 (by omega)
    have c4 := hCa0.box b4 (by omega)
    have hszW := hCa0.1
    have hltD := lt_of_block hK
    refine a1 _ _ ?_
    gi_wp2
    rename_i K2 a2
    have lt1 := lt_of_block hv1
    have after2 : ∀ (D2 : Nat) (X : World), W.heap.size ≤ D2 → WEnd 64 68 W.heap.size (w.heap.size + 2) M L X → Carry W (w.heap.size + 2) X → Below w.heap.size w X → X.heap[D2]? = some (.deferred (some [])) →
        K2 { tmps := #[.pointer (some ⟨gd, 0, none⟩), .int .i64 fr, .int .i64 (M : Nat), undef, undef, .pointer (some ⟨w.heap.size, 0, none⟩), .slice none 0 0, .bool false, .pointer (some ⟨w.heap.size + 1, 0, none⟩), .pointer (some ⟨w.heap.size + 2, 0, none⟩), .func (.func 76) #[] #[.pointer (some ⟨w.heap.size + 4, 0, none⟩), .pointer (some ⟨w.heap.size + 3, 0, none⟩)], undef, undef, undef, undef, .pointer (some ⟨gd, 0, none⟩), .int .i64 fr, .func (.func 76) #[] #[.pointer (some ⟨w.heap.size + 4, 0, none⟩), .pointer (some ⟨w.heap.size + 3, 0, none⟩)], .func (.func 76) #[] #[.pointer (some ⟨w.heap.size + 4, 0, none⟩), .pointer (some ⟨w.heap.size + 3, 0, none⟩)], undef, undef, undef, undef, undef, undef, undef, undef, undef, undef, undef, undef, .func (.func 76) #[] #[.pointer (some ⟨w.heap.size + 4, 0, none⟩), .pointer (some ⟨w.heap.size + 3, 0, none⟩)], undef, undef, undef, undef, undef, undef, undef, undef, undef, undef, undef, undef, undef, undef, undef, undef], defers := [{ target := .collected D2, args := #[] }, { target := .collected D, args := #[] }] } X := by
      rintro D2 X hD2 ⟨v2, hv2, hrow2⟩ hCa hBX hK2
      refine a2 _ _ ?_
      refine wpIn_wide.2 ?_
      dsimp only
      have hX0 := hBX.size
      have hne : D ≠ D2 := by omega
      have hDX : X.heap[D]? = some (.deferred (some [])) := (hCa.2 D (by omega) (by omega)).trans hK
      have x1 := hCa.box hv1 (by omega)
      have r1 := hCa.row hrow1 c2 (by decide)
      have hx1 := x1.cell
      have hx2 := hv2.cell
      have same := fun n => sameSaw_calls (X.drewN n) (w.heap.size + 5) W.heap.size v1 v2 (L.take M) (by simp; omega) r1 hrow2
      have R1 := Lib.hid r1
      have ND : Hid ([D2, D].Nodup) := Lib.hid (by simp; omega)
      have KD := Lib.hid hDX
      have KD2 := Lib.hid hK2
      have BX := Lib.hid hBX
      have LE1 := Lib.hid (show w.heap.size ≤ D by omega)
      have LE2 := Lib.hid (show w.heap.size ≤ D2 by omega)
      clear x1 r1 hX0 hne hDX hK hK2 hBX hCa hrow1 hrow2 hv1 hv2 c0 c2 c3 c4 hBW
      refine wp_seq ?_
      go_quiet ((go_at_call 52; exact (same _).mono fun _ _ ⟨he, m, hm⟩ => ⟨he, _, hm.trans (drewN_drewN X _ m)⟩))
      show Code.wp _ Code.ret Q1 _ _
      refine wp_ret ?_
      show LeavesInM Fence.wide 6 _ _ _ _ (marks [D2, D]) .returning _
      refine leavesMarks (v := .tuple #[v1, .bool true]) (fun Y => Y.ownsRow (w.heap.size + 5) 68 2 v1 (L.take M).length (sawCs (L.take M)) ∧ Below w.heap.size w Y) w.heap.size (fun Y E h hE hh => ⟨row_put h.1 hh rfl _, h.2.grown (grownBy_putObj' _ E (.deferred none)) h.2.size (fun k e => by cases e; exact hE)⟩) (fun Y _ => (results_tmp2 (t := 6) (u := 7) rfl _ _ _).trans rfl) (fun Y h => ⟨v1, rfl, ownsRow_mono h.1 (by omega), h.2⟩) [D2, D] (X.drewN nq) ND.out ?_ ⟨R1.out, below_drewN BX.out nq⟩
      intro E hE
      rcases List.mem_cons.1 hE with rfl | hE
      · exact ⟨LE2.out, KD2.out⟩
      · obtain rfl := List.mem_singleton.1 hE
        exact ⟨LE1.out, KD.out⟩
    refine wpIn_rangeFunc_ownI rfl (by omega) (gf := 76) (lb := #[.pointer (some ⟨w.heap.size + 4, 0, none⟩), .pointer (some ⟨w.heap.size + 3, 0, none⟩)]) rfl trivial (enters_of Try.func76 (by kernel_rfl) rfl)
      (HST.out W c4 c3 hBW.size (fun j hj => hBW.block j hj)) (fun h k => h.trans k) (fun X l o o' hl hl2 h1 h2 h3 => ⟨by simp, fun j o hj hs => (World.putObj_heap_other (fun e => by
          subst e
          rw [h1] at hj; cases hj
          rcases hs with (hs | hs | hs) | hs | hs
          · omega
          · omega
          · omega
          · obtain (⟨v, e⟩ | ⟨v, e⟩ | ⟨v, e⟩) := hs <;> (subst e; cases h2)
          · omega)).trans hj⟩) (Below.refl _ _) (fun x hx => by obtain ⟨y, _, rfl⟩ := List.mem_map.1 hx; rfl)
      (fun i X => WInv 64 68 (W.heap.size) (w.heap.size + 2) M L i X ∧ Carry W (w.heap.size + 2) X ∧ Below w.heap.size w X)
      (fun c i X => c = .exit 2 ∧ WOut 64 68 (W.heap.size) (w.heap.size + 2) M L i X ∧ Carry W (w.heap.size + 2) X ∧ Below w.heap.size w X)
      (fun i X Y row ⟨h1, h2, h3⟩ hg hr => ⟨WInv.ab h1 hg (fun r e => (hr r e).2), h2.abd hg (fun r e => (hr r e).1), h3.grown hg (by have := h3.size; omega) (fun r e => by have := (hr r e).1; have := hBW.size; omega)⟩)
      (fun c i X Y row ⟨h0, h1, h2, h3⟩ hg hr => ⟨h0, WOut.ab h1 hg (fun r e => (hr r e).2), h2.abd hg (fun r e => (hr r e).1), h3.grown hg (by have := h3.size; omega) (fun r e => by have := (hr r e).1; have := hBW.size; omega)⟩)
      ⟨⟨_, c2, World.ownsRow_nil _ _ _ _, Nat.zero_le _⟩, Carry.refl _ _, hBW⟩
      (axAt L ?fr2) (axAt_own _ _) ?assign2 ?body2 ?done2 ?stop2
    case assign2 =>
      intro l i hi X K hI hK
      have hiL : i < L.length := by simpa using hi
      obtain ⟨z, hz⟩ : ∃ z, z = L[i] := ⟨_, rfl⟩
      rw [List.getElem_map, ← hz]
      have HZ := Lib.hid hz
      clear hz
      unfold encK
      gi_wp2
      refine hK _ _ (KeepsFrom.refl _ _) (KpO.refl _ _ _ _) hI ?_
      refine axAt_intro hiL HZ.out ?_
      exact Eq.refl _
    case body2 =>
      rintro l i hi a' X hl ⟨r0, hr0⟩ ⟨⟨v, hv, hrow, hlM⟩, hCa, hBX⟩ ⟨hiL, rfl⟩
      have hll : (L.take i).length = i := by rw [List.length_take]; omega
      have htk : L.take (i + 1) = L.take i ++ [L[i]] := List.take_succ_eq_append_getElem hiL
      obtain ⟨z, hz⟩ : ∃ z, z = L[i] := ⟨_, rfl⟩
      dsimp only
      rw [← hz] at htk ⊢
      clear hz
      obtain ⟨kx, ux⟩ := z
      simp only
      obtain ⟨sx, hsx⟩ : ∃ sx : ByteArray, sx = ⟨ux.toArray⟩ := ⟨_, rfl⟩
      have hcs : sawCs (L.take (i + 1)) = sawCs (L.take i) ++ [.int .i64 (kx : Nat), .string sx] := by rw [htk, sawCs_snoc, hsx]; rfl
      rw [← hsx]
      have HCS := Lib.hid hcs
      obtain ⟨a, cp, rfl⟩ := ownsRow_slice hrow
      have d0 := hCa.box c0 (by omega)
      have d3 := hCa.box c3 (by omega)
      have d4 := hCa.box c4 (by omega)
      have hc := hv.cell
      have hc0 := d0.cell
      have hszX := hBX.size
      have hszC := hCa.1
      have hzV := hBW.size
      have D3 := Lib.hid d3
      have D4 := Lib.hid d4
      have HROW := Lib.hid hrow
      have HV := Lib.hid hv
      have HCA := Lib.hid hCa
      have HBX := Lib.hid hBX
      clear d0 d3 d4 hCa hBX hrow hv hr0 htk hcs hsx
      by_cases hML : i = M
      · have e1 : decide (M ≤ i) = true := decide_eq_true (by omega)
        have hfin : WOut 64 68 (W.heap.size) (w.heap.size + 2) M L (i + 1) X := ⟨_, HV.out, by rw [← hML]; exact HROW.out, by rw [hML]⟩
        have HF := Lib.hid hfin
        clear hfin hML
        gi_wp2
        exact ⟨KeepsFrom.refl _ _, rfl, HF.out, HCA.out, HBX.out⟩
      · have e1 : decide (M ≤ i) = false := decide_eq_false (by omega)
        have hLp : i < 4194400 := by omega
        gi_wp2_with (gi_at_builtin; refine wpListIn_append_own _ rfl _ _ 64 rfl (W.heap.size) 68 i0 (.agg #[.int .i64 0, .string ⟨#[]⟩]) 2 24 Try.underlying64 HI.out HZ0.out HZ1.out HZ2.out rfl (by decide) _ _ _ rfl (HROW.out.alloc _) ⟨X.heap.size, 0, none⟩ 1 1 [.int .i64 (kx : Nat), .string sx] rfl rfl (cell_two_newD _ _ _ _) (by simp [Value.oneCell']) (by unfold maxLen; omega) (by omega) (by simp; omega) ?_; intro v' w1 hown' hgrow _; obtain ⟨g', cap', rfl⟩ := ownsRow_succ hown'; obtain ⟨hv1, hv2, hr2, hk2, hb2, _, hb3⟩ := boxed_app (n₁ := w.heap.size) HV.out (by decide) HROW.out (by omega) (by omega) (by omega) hown' hgrow; have hc1 := hv1.cell; have hf1 := hv1.frozen; (have HV2 := Lib.hid hv2); (have HR2 := Lib.hid hr2); (have HK2 := Lib.hid hk2); (have HB2 := Lib.hid hb2); (have HB3 := Lib.hid hb3); (have HAK := Lib.hid (app_keeps (Q := QoE) (v' := .slice (some ⟨g', 0, none⟩) (i + 1) cap') HV.out qoe_box qoe_row HROW.out hgrow)); clear hv1 hv2 hr2 hk2 hb2 hb3 hown' hgrow)
        refine ⟨HK2.out.from _, ⟨HK2.out.size, fun j o ho hs => ?_⟩, ⟨_, HV2.out, ?_, by omega⟩, ⟨Nat.le_trans hszC HK2.out.size, fun j hj hjB => (HB3.out j (by omega) (by omega) hjB).trans (HCA.out.2 j hj hjB)⟩, HBX.out.trans HB2.out⟩
        · rcases hs with (hs | hs | hs) | hs | hs
          · exact (HB3.out j (by omega) (by omega) (by omega)).trans ho
          · subst hs
            rw [show X.heap[w.heap.size + 4]? = _ from D4.out] at ho
            cases ho
            exact HAK.out _ _ D4.out (.inl (.inl ⟨_, rfl⟩))
          · subst hs
            rw [show X.heap[w.heap.size + 3]? = _ from D3.out] at ho
            cases ho
            exact HAK.out _ _ D3.out (.inl (.inr (.inl ⟨_, rfl⟩)))
          · exact HAK.out _ _ ho (.inl hs)
          · exact HAK.out _ _ ho (.inr hs.2)
        · rw [HCS.out]
          exact HR2.out
    case done2 =>
      rintro D2 X hD2 ⟨hI, hCa, hBX⟩ hK
      rw [List.length_map] at hI
      exact after2 D2 X hD2 hI.fin hCa hBX hK
    case stop2 =>
      rintro D2 c i X hD2 hi ⟨rfl, hO, hCa, hBX⟩ hK
      rw [List.length_map] at hi
      gi_wp2
      exact after2 D2 X hD2 (hO.fin hi) hCa hBX hK

  refine wpIn_rangeFunc_ownI rfl (by omega) (gf := 76) (lb := #[.pointer (some ⟨w.heap.size + 4, 0, none⟩), .pointer (some ⟨w.heap.size + 3, 0, none⟩)]) rfl trivial (enters_of Try.func76 (by kernel_rfl) rfl)
    (HST.out W0 b4 b3 hB.size (fun j hj => hB.block j hj)) (fun h k => h.trans k) (fun X l o o' hl hl2 h1 h2 h3 => ⟨by simp, fun j o hj hs => (World.putObj_heap_other (fun e => by
        subst e
        rw [h1] at hj; cases hj
        rcases hs with (hs | hs | hs) | hs | hs
        · omega
        · omega
        · omega
        · obtain (⟨v, e⟩ | ⟨v, e⟩ | ⟨v, e⟩) := hs <;> (subst e; cases h2)
        · omega)).trans hj⟩) (Below.refl _ _) (fun x hx => by obtain ⟨y, _, rfl⟩ := List.mem_map.1 hx; rfl)
    (fun i X => WInv 64 68 (w.heap.size + 5) (w.heap.size + 1) M L i X ∧ Carry W0 (w.heap.size + 1) X ∧ Below w.heap.size w X)
    (fun c i X => c = .exit 0 ∧ WOut 64 68 (w.heap.size + 5) (w.heap.size + 1) M L i X ∧ Carry W0 (w.heap.size + 1) X ∧ Below w.heap.size w X)
    (fun i X Y row ⟨h1, h2, h3⟩ hg hr => ⟨WInv.ab h1 hg (fun r e => (hr r e).2), h2.abd hg (fun r e => (hr r e).1), h3.grown hg (by have := h3.size; omega) (fun r e => by have := (hr r e).1; have := hB.size; omega)⟩)
    (fun c i X Y row ⟨h0, h1, h2, h3⟩ hg hr => ⟨h0, WOut.ab h1 hg (fun r e => (hr r e).2), h2.abd hg (fun r e => (hr r e).1), h3.grown hg (by have := h3.size; omega) (fun r e => by have := (hr r e).1; have := hB.size; omega)⟩)
    ⟨⟨_, b1, World.ownsRow_nil _ _ _ _, Nat.zero_le _⟩, Carry.refl _ _, hB⟩
    (axAt L ?fr1) (axAt_own _ _) ?assign1 ?body1 ?done1 ?stop1
  case assign1 =>
    intro l i hi X K hI hK
    have hiL : i < L.length := by simpa using hi
    obtain ⟨z, hz⟩ : ∃ z, z = L[i] := ⟨_, rfl⟩
    rw [List.getElem_map, ← hz]
    have HZ := Lib.hid hz
    clear hz
    unfold encK
    gi_wp2
    refine hK _ _ (KeepsFrom.refl _ _) (KpO.refl _ _ _ _) hI ?_
    refine axAt_intro hiL HZ.out ?_
    exact Eq.refl _
  case body1 =>
    rintro l i hi a' X hl ⟨r0, hr0⟩ ⟨⟨v, hv, hrow, hlM⟩, hCa, hBX⟩ ⟨hiL, rfl⟩
    have hll : (L.take i).length = i := by rw [List.length_take]; omega
    have htk : L.take (i + 1) = L.take i ++ [L[i]] := List.take_succ_eq_append_getElem hiL
    obtain ⟨z, hz⟩ : ∃ z, z = L[i] := ⟨_, rfl⟩
    dsimp only
    rw [← hz] at htk ⊢
    clear hz
    obtain ⟨kx, ux⟩ := z
    simp only
    obtain ⟨sx, hsx⟩ : ∃ sx : ByteArray, sx = ⟨ux.toArray⟩ := ⟨_, rfl⟩
    have hcs : sawCs (L.take (i + 1)) = sawCs (L.take i) ++ [.int .i64 (kx : Nat), .string sx] := by rw [htk, sawCs_snoc, hsx]; rfl
    rw [← hsx]
    have HCS := Lib.hid hcs
    obtain ⟨a, cp, rfl⟩ := ownsRow_slice hrow
    have d0 := hCa.box b0 (by omega)
    have d3 := hCa.box b3 (by omega)
    have d4 := hCa.box b4 (by omega)
    have hc := hv.cell
    have hc0 := d0.cell
    have hszX := hBX.size
    have hszC := hCa.1
    have hzV := hB.size
    have D3 := Lib.hid d3
    have D4 := Lib.hid d4
    have HROW := Lib.hid hrow
    have HV := Lib.hid hv
    have HCA := Lib.hid hCa
    have HBX := Lib.hid hBX
    clear d0 d3 d4 hCa hBX hrow hv hr0 htk hcs hsx
    by_cases hML : i = M
    · have e1 : decide (M ≤ i) = true := decide_eq_true (by omega)
      have hfin : WOut 64 68 (w.heap.size + 5) (w.heap.size + 1) M L (i + 1) X := ⟨_, HV.out, by rw [← hML]; exact HROW.out, by rw [hML]⟩
      have HF := Lib.hid hfin
      clear hfin hML
      gi_wp2
      exact ⟨KeepsFrom.refl _ _, rfl, HF.out, HCA.out, HBX.out⟩
    · have e1 : decide (M ≤ i) = false := decide_eq_false (by omega)
      have hLp : i < 4194400 := by omega
      gi_wp2_with (gi_at_builtin; refine wpListIn_append_own _ rfl _ _ 64 rfl (w.heap.size + 5) 68 i0 (.agg #[.int .i64 0, .string ⟨#[]⟩]) 2 24 Try.underlying64 HI.out HZ0.out HZ1.out HZ2.out rfl (by decide) _ _ _ rfl (HROW.out.alloc _) ⟨X.heap.size, 0, none⟩ 1 1 [.int .i64 (kx : Nat), .string sx] rfl rfl (cell_two_newD _ _ _ _) (by simp [Value.oneCell']) (by unfold maxLen; omega) (by omega) (by simp; omega) ?_; intro v' w1 hown' hgrow _; obtain ⟨g', cap', rfl⟩ := ownsRow_succ hown'; obtain ⟨hv1, hv2, hr2, hk2, hb2, _, hb3⟩ := boxed_app (n₁ := w.heap.size) HV.out (by decide) HROW.out (by omega) (by omega) (by omega) hown' hgrow; have hc1 := hv1.cell; have hf1 := hv1.frozen; (have HV2 := Lib.hid hv2); (have HR2 := Lib.hid hr2); (have HK2 := Lib.hid hk2); (have HB2 := Lib.hid hb2); (have HB3 := Lib.hid hb3); (have HAK := Lib.hid (app_keeps (Q := QoE) (v' := .slice (some ⟨g', 0, none⟩) (i + 1) cap') HV.out qoe_box qoe_row HROW.out hgrow)); clear hv1 hv2 hr2 hk2 hb2 hb3 hown' hgrow)
      refine ⟨HK2.out.from _, ⟨HK2.out.size, fun j o ho hs => ?_⟩, ⟨_, HV2.out, ?_, by omega⟩, ⟨Nat.le_trans hszC HK2.out.size, fun j hj hjB => (HB3.out j (by omega) (by omega) hjB).trans (HCA.out.2 j hj hjB)⟩, HBX.out.trans HB2.out⟩
      · rcases hs with (hs | hs | hs) | hs | hs
        · exact (HB3.out j (by omega) (by omega) (by omega)).trans ho
        · subst hs
          rw [show X.heap[w.heap.size + 4]? = _ from D4.out] at ho
          cases ho
          exact HAK.out _ _ D4.out (.inl (.inl ⟨_, rfl⟩))
        · subst hs
          rw [show X.heap[w.heap.size + 3]? = _ from D3.out] at ho
          cases ho
          exact HAK.out _ _ D3.out (.inl (.inr (.inl ⟨_, rfl⟩)))
        · exact HAK.out _ _ ho (.inl hs)
        · exact HAK.out _ _ ho (.inr hs.2)
      · rw [HCS.out]
        exact HR2.out
  case done1 =>
    rintro D1 X hD1 ⟨hI, hCa, hBX⟩ hK
    rw [List.length_map] at hI
    exact after D1 X hD1 hI.fin hCa hBX hK
  case stop1 =>
    rintro D1 c i X hD1 hi ⟨rfl, hO, hCa, hBX⟩ hK
    rw [List.length_map] at hi
    gi_wp2
    exact after D1 X hD1 (hO.fin hi) hCa hBX hK

end Go.Proofs.Ytjgcmnppiaikcaa
