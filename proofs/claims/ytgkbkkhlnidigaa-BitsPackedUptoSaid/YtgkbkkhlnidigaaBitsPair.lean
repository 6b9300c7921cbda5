/- A buffer and the reference's, side by side. -/
import Derived.Test.YtgkbkkhlnidigaaBitsAsk
import Derived.Test.YtgkbkkhlnidigaaBitsOps
import Derived.Test.YtgkbkkhlnidigaaCopiedcopied
set_option linter.unusedVariables false
set_option linter.unusedSimpArgs false
namespace Go.Proofs.Ytgkbkkhlnidigaa
open Go.RowKit Go.Tk
/-- The blocks of both. -/
def Fp2 (p q : Nat) (v u : Value) (k : Nat) : Prop := Fp p v k ∨ Fp q u k
structure Pr (w : World) (base p q : Nat) (most : Int) (st : List Int × Bool) (v u : Value) : Prop where
  B : BufB w base p most st v
  R : BufR w base q most st u
  D : ∀ k, Fp p v k → ¬ Fp q u k
theorem Pr.kept {S : Nat → Prop} {w w' : World} {base p q : Nat} {most : Int} {st : List Int × Bool} {v u : Value} (h : Pr w base p q most st v u) (hk : Kept S w w') (hd : ∀ k, Fp2 p q v u k → ¬ S k) : Pr w' base p q most st v u :=
  ⟨h.B.kept hk (fun k hk => hd k (.inl hk)), h.R.kept hk (fun k hk => hd k (.inr hk)), h.D⟩
theorem Pr.lt {w : World} {base p q : Nat} {most : Int} {st : List Int × Bool} {v u : Value} (h : Pr w base p q most st v u) : ∀ k, Fp2 p q v u k → base ≤ k ∧ k < w.heap.size := fun k hk => by
  rcases hk with hk | hk
  · exact h.B.lt k hk
  · exact h.R.lt k hk
theorem Fp.step {w : World} {p : Nat} {v v' : Value} (h : OwnStep w v v') {k : Nat} (hk : Fp p v' k) : Fp p v k ∨ w.heap.size ≤ k := by
  rcases hk with rfl | hk
  · exact .inl (.inl rfl)
  · rcases h with e | ⟨g, e, hg⟩
    · exact .inl (.inr (e ▸ hk))
    · rw [e] at hk; have := Option.some.inj hk; exact .inr (by omega)
theorem OwnStep.trans {w w' : World} {a b c : Value} (h : OwnStep w a b) (k : OwnStep w' b c) (hs : w.heap.size ≤ w'.heap.size) : OwnStep w a c := by
  rcases k with e | ⟨g, e, hg⟩
  · rcases h with e2 | ⟨g, e2, hg⟩
    · exact .inl (e.trans e2)
    · exact .inr ⟨g, e.trans e2, hg⟩
  · exact .inr ⟨g, e, Nat.le_trans hs hg⟩
/-- The first of the two has taken something, the second not yet. -/
structure Half (w : World) (base p q : Nat) (most : Int) (st st1 : List Int × Bool) (v u v' : Value) (w' : World) : Prop where
  B : BufB w' base p most st1 v'
  R : BufR w' base q most st u
  D : ∀ k, Fp p v' k → ¬ Fp q u k
  K : Kept (Fp p v) w w'
  S : OwnStep w v v'
theorem Pr.half {w : World} {base p q : Nat} {most : Int} {st st1 : List Int × Bool} {v u : Value} (h : Pr w base p q most st v u) {e : Ending} {w' : World} (hp : PutBufB w base p most st1 v e w') : ∃ v', e = .returned (.tuple #[]) ∧ Half w base p q most st st1 v u v' w' := by
  obtain ⟨v', he, hB, hK, hS⟩ := hp
  refine ⟨v', he, hB, h.R.kept hK (fun k hk hf => h.D k hf hk), fun k hk hq => ?_, hK, hS⟩
  rcases Fp.step hS hk with h1 | h1
  · exact h.D k h1 hq
  · have := (h.R.lt k hq).2; omega
/-- What is known behind a call of both. -/
def WroteP (w : World) (base p q : Nat) (most : Int) (st1 : List Int × Bool) (v u : Value) (e : Ending) (w' : World) : Prop :=
  ∃ v' u', e = .returned (.bool true) ∧ Pr w' base p q most st1 v' u' ∧ Kept (Fp2 p q v u) w w' ∧ OwnStep w v v' ∧ OwnStep w u u'
theorem Half.whole {w : World} {base p q : Nat} {most : Int} {st st1 : List Int × Bool} {v u v' : Value} {w1 w2 : World} (h : Half w base p q most st st1 v u v' w1) {T : Nat → Prop} (hT : ∀ k, T k → w.heap.size ≤ k)
    (hT2 : ∀ k, Fp2 p q v' u k → ¬ T k) (hk : Kept T w1 w2) {e : Ending} {w' : World} (hp : PutBufR w2 base q most st1 u e w') : ∃ u', e = .returned (.tuple #[]) ∧ Pr w' base p q most st1 v' u' ∧ Kept (Fp2 p q v u) w w' ∧ OwnStep w v v' ∧ OwnStep w u u' := by
  obtain ⟨u', he, hR, hK, hS⟩ := hp
  have hB2 : BufB w2 base p most st1 v' := h.B.kept hk (fun k hk => hT2 k (.inl hk))
  refine ⟨u', he, ⟨hB2.kept hK (fun k hk => h.D k hk), hR, fun k hk hq => ?_⟩, ?_, h.S, ?_⟩
  · rcases Fp.step hS hq with h1 | h1
    · exact h.D k hk h1
    · have := (hB2.lt k hk).2; omega
  · refine ((h.K.mono (T := Fp2 p q v u) (fun k hk => .inl hk)).trans hk (fun k hk => .inr (hT k hk))).trans hK (fun k hk => .inl (.inr hk))
  · exact (OwnStep.trans (.inl rfl) hS (Nat.le_trans h.K.size hk.size))
/-- A call in a box of its own. -/
def BoxO (w : World) (g : Nat) (o : OpV) : Prop := w.heap[g]? = some (.cells #[.int .i64 o.kind, .int .u64 o.n, .int .i64 o.k, .slice o.ba o.bl o.bc, .bool o.two] 53 (0, 0))
theorem BoxO.lt {w : World} {g : Nat} {o : OpV} (h : BoxO w g o) : g < w.heap.size := (Array.getElem?_eq_some_iff.1 h).1
theorem BoxO.kept {S : Nat → Prop} {w w' : World} {g : Nat} {o : OpV} (h : BoxO w g o) (hk : Kept S w w') (hs : ¬ S g) : BoxO w' g o := (hk.block g h.lt hs).trans h
theorem BoxO.c0 {w : World} {g : Nat} {o : OpV} (h : BoxO w g o) : w.cell? ⟨g, 0, none⟩ = some (.int .i64 o.kind) := by rw [cell_of_row w g 0 _ _ _ h]; rfl
theorem BoxO.c1 {w : World} {g : Nat} {o : OpV} (h : BoxO w g o) : w.cell? ⟨g, 1, none⟩ = some (.int .u64 o.n) := by rw [cell_of_row w g 1 _ _ _ h]; rfl
theorem BoxO.c2 {w : World} {g : Nat} {o : OpV} (h : BoxO w g o) : w.cell? ⟨g, 2, none⟩ = some (.int .i64 o.k) := by rw [cell_of_row w g 2 _ _ _ h]; rfl
theorem BoxO.c3 {w : World} {g : Nat} {o : OpV} (h : BoxO w g o) : w.cell? ⟨g, 3, none⟩ = some (.slice o.ba o.bl o.bc) := by rw [cell_of_row w g 3 _ _ _ h]; rfl
theorem box_new (w : World) (o : OpV) : BoxO (w.alloc (.cells #[.int .i64 o.kind, .int .u64 o.n, .int .i64 o.k, .slice o.ba o.bl o.bc, .bool o.two] 53)) w.heap.size o := by
  show (w.heap.push _)[w.heap.size]? = _
  rw [Array.getElem?_push, if_pos rfl]
/-- An Op as a value. -/
def OpV.val (o : OpV) : Value := .agg #[.int .i64 o.kind, .int .u64 o.n, .int .i64 o.k, .slice o.ba o.bl o.bc, .bool o.two]
theorem Pr.drewN {w : World} {base p q : Nat} {most : Int} {st : List Int × Bool} {v u : Value} (h : Pr w base p q most st v u) (n : Nat) : Pr (w.drewN n) base p q most st v u := ⟨h.B.drewN n, h.R.drewN n, h.D⟩
theorem OwnStep.old {w w0 : World} {v v' : Value} (h : OwnStep w0 v v') (hs : w.heap.size ≤ w0.heap.size) : OwnStep w v v' := OwnStep.trans (.inl rfl) h hs
/-- The ends of a call of both: what its tail needs. -/
structure Tail (w0 w : World) (base p q : Nat) (most : Int) (st1 : List Int × Bool) (v u v' u' : Value) (w2 : World) : Prop where
  P : Pr w2 base p q most st1 v' u'
  K : Kept (Fp2 p q v u) w0 w2
  S1 : OwnStep w0 v v'
  S2 : OwnStep w0 u u'
  sz : w.heap.size ≤ w0.heap.size
theorem Tail.wrote {w0 w : World} {base p q : Nat} {most : Int} {st1 : List Int × Bool} {v u v' u' : Value} {w2 : World} (h : Tail w0 w base p q most st1 v u v' u' w2) (hk : Kept (fun _ => False) w w0) (n : Nat) : WroteP w base p q most st1 v u (.returned (.bool true)) (w2.drewN n) :=
  ⟨v', u', rfl, h.P.drewN n, ((hk.mono (T := Fp2 p q v u) (fun _ h => h.elim)).trans h.K (fun k hk => .inl hk)).drewN n, OwnStep.old h.S1 h.sz, OwnStep.old h.S2 h.sz⟩
set_option maxRecDepth 100000 in
set_option maxHeartbeats 1000000 in
theorem wrote1 (w : World) (base p q : Nat) (most : Int) (st : List Int × Bool) (v u : Value) (h : Pr w base p q most st v u) (n k : Int) (ba : Option Addr) (bl bc : Nat) (two : Bool) (n0 : 0 ≤ n) (n1 : n < 18446744073709551616) (k0 : -9223372036854775808 ≤ k) (k1 : k ≤ 9223372036854775807) (h0 : 0 ≤ most) (h1 : most ≤ 9223372036854775807) (hb : st.1.length + 20 ≤ 140737488355000) :
    Calls Try.prog 21 #[.pointer (some ⟨p, 0, none⟩), .pointer (some ⟨q, 0, none⟩), .agg #[.int .i64 1, .int .u64 n, .int .i64 k, .slice ba bl bc, .bool two]] w (WroteP w base p q most (putF most st [n % 256]) v u) := by
  have ka : Kept (fun _ => False) w (w.alloc (.cells #[.int .i64 1, .int .u64 n, .int .i64 k, .slice ba bl bc, .bool two] 53)) := (Kept.refl _ w).alloc _
  have hx : BoxO (w.alloc (.cells #[.int .i64 1, .int .u64 n, .int .i64 k, .slice ba bl bc, .bool two] 53)) w.heap.size ⟨1, n, k, ba, bl, bc, [], two⟩ := box_new w ⟨1, n, k, ba, bl, bc, [], two⟩
  have ha := h.kept ka (fun _ _ h => h)
  have hxl := hx.lt
  have hnf : ∀ k, Fp2 p q v u k → k < w.heap.size := fun k hk => (h.lt k hk).2
  have KA := Lib.hid ka
  clear ka
  go_enter Try.func21, Try.ntmps21
  go_wp2_with (go_at_call 32; refine (byte_calls _ base p most st v ha.B _ h0 h1 (by omega)).mono ?_; rintro e w1 hp; obtain ⟨v', rfl, hh⟩ := ha.half hp; have x1 := hx.kept hh.K (fun hf => by have := hnf _ (.inl hf); omega); have c1 := x1.c1; have c2 := x1.c2; clear hp)
  go_wp2_with (go_at_call 51; have kk : Kept (fun _ => False) w1 (w1.alloc (.cells #[.int .u8 (n % 256)] 5)) := (Kept.refl _ w1).alloc _; refine (put_calls _ base q most st u (hh.R.kept kk (fun _ _ h => h)) _ 1 1 [n % 256] (SlI.one _ _ _ _) (by simp) h0 h1 (by omega)).mono ?_; rintro e w3 hp2; obtain ⟨u', rfl, hP, hK, s1, s2⟩ := hh.whole (T := fun _ => False) (fun _ h => h.elim) (fun _ _ h => h) kk hp2; obtain ⟨ua, uc, rfl, hus, _⟩ := hP.R.own.sl; have ul := hus.le; have um := hus.max; have cq : w3.cell? ⟨q, 1, none⟩ = some (.slice ua _ uc) := (by rw [cell_of_row w3 q 1 _ _ _ hP.R.blk]; rfl); clear hp2)
  have q3 := fun n => quiet_eq (len_calls (w3.drewN n) base p most _ _ (hP.B.drewN n))
  go_quiet ((go_at_call 31; with_reducible exact q3 _))
  go_wp2
  go_ret
  exact (Tail.mk hP hK s1 s2 KA.out.size).wrote KA.out _
end Go.Proofs.Ytgkbkkhlnidigaa
