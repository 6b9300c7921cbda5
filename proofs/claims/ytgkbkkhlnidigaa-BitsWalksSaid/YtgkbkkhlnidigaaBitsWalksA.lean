/- BitsWalks: All of a view: left at any place, gone over again, and within itself. -/
import Derived.Test.YtgkbkkhlnidigaaPkBx
import Derived.Test.YtgkbkkhlnidigaaPkF
import Derived.Test.YtgkbkkhlnidigaaPkR
import Derived.Test.YtgkbkkhlnidigaaPkL
import Derived.Test.YtgkbkkhlnidigaaCopiedcopied
import Derived.Laws.EntriesVeiled
import Derived.LoopNIn
import Derived.Deep.Cut
import Derived.Test.YtgkbkkhlnidigaaHe
import Derived.Outline
set_option linter.unusedVariables false
set_option linter.unusedSimpArgs false
namespace Go.Proofs.Ytgkbkkhlnidigaa
open Go.RowKit Go.Shelf Go.Tk
attribute [local go_sem] Oper.semAt_some
theorem opVal_agg (zs : List Int) (a : Option Addr) (c : Nat) (n wd : Int) : ∃ pa pl pc pi pj, opVal zs a c n wd = .agg #[.slice pa pl pc, .int .i64 pi, .int .i64 pj] := by
  unfold opVal; split <;> exact ⟨_, _, _, _, _, rfl⟩
section
variable {P : Program} {ops : Array Oper} {Q : Exit → Act → World → Prop} {md : Region.Mode} {S : World → Prop}
theorem wh_takeD (i d : Nat) (v : Value) {o : Oper} {fuel : Nat} {listed : Array Bool} {a : Act} {w : World} (hi : ops[i]? = some o) (hd : o.dst = some d) (hg : o.guard = none)
    (hs : Region.noSelect ops = true) (hf : Region.free md ops listed i = true) (hr : (Region.ready md ops listed).contains i = true)
    (hQ : ∀ c a a' w, Q (.panic c) a' w → Q (.panic c) a w) (hS : S w)
    (hy : ∀ w', S w' → (execOp a.eval o).run P w' = .ok (.value v) w')
    (h : wpAnyH P md ops Q S fuel (listed.setIfInBounds i true) ⟨a.tmps.setIfInBounds d v, a.defers⟩ w) : wpAnyH P md ops Q S (fuel + 1) listed a w :=
  wh_take i v hi hg hs hf hr (fun c a w => hQ c a _ w) hS hy (by rw [hd]; exact h)
theorem wh_callD (i d : Nat) (v : Value) (R : World → Prop) {o : Oper} {fuel : Nat} {listed : Array Bool} {a : Act} {w : World} {f : FuncId} {args : Array Value} (hi : ops[i]? = some o) (hd : o.dst = some d) (hg : o.guard = none) (hr : Region.ready md ops listed = [i])
    (he : (execOp a.eval o).run P w = .ok (.enter f args) w) (hc : Calls P f args w fun e w' => e = .returned v ∧ R w') (hS : ∀ w', R w' → S w')
    (h : ∀ w', R w' → wpAnyH P md ops Q S fuel (listed.setIfInBounds i true) ⟨a.tmps.setIfInBounds d v, a.defers⟩ w') : wpAnyH P md ops Q S (fuel + 1) listed a w :=
  wh_call i v R hi hg hr he hc hS (fun w' hR => by rw [hd]; exact h w' hR)
theorem wh_stepD (i d : Nat) (v : Value) {o : Oper} {fuel : Nat} {listed : Array Bool} {a : Act} {w w' : World} (hi : ops[i]? = some o) (hd : o.dst = some d) (hg : o.guard = none) (hr : Region.ready md ops listed = [i])
    (hy : (execOp a.eval o).run P w = .ok (.value v) w') (hS : S w') (h : wpAnyH P md ops Q S fuel (listed.setIfInBounds i true) ⟨a.tmps.setIfInBounds d v, a.defers⟩ w') : wpAnyH P md ops Q S (fuel + 1) listed a w :=
  wh_step i v hi hg hr hy hS (by rw [hd]; exact h)
theorem wh_skipD (i : Nat) {o : Oper} {fuel : Nat} {listed : Array Bool} {a : Act} {w w' : World} (hi : ops[i]? = some o) (hd : o.dst = none) (hg : o.guard = none) (hr : Region.ready md ops listed = [i])
    (hy : (execOp a.eval o).run P w = .ok .skip w') (hS : S w') (h : wpAnyH P md ops Q S fuel (listed.setIfInBounds i true) a w') : wpAnyH P md ops Q S (fuel + 1) listed a w :=
  wh_skip i hi hg hr hy hS (by rw [hd]; exact h)
end
theorem wh_two {P : Program} {ops : Array Oper} {Q : Exit → Act → World → Prop} {md : Region.Mode} {S : World → Prop} (i j : Nat) {fuel : Nat} {listed : Array Bool} {a : Act} {w : World} (hr : Region.ready md ops listed = [i, j])
    (h1 : wpOp P ops Q i (fun a' w' => S w' ∧ wpAnyH P md ops Q S fuel (listed.setIfInBounds i true) a' w') a w) (h2 : wpOp P ops Q j (fun a' w' => S w' ∧ wpAnyH P md ops Q S fuel (listed.setIfInBounds j true) a' w') a w) : wpAnyH P md ops Q S (fuel + 1) listed a w :=
  wpAnyH_all hr (by simp) (by simp only [List.mem_cons, List.not_mem_nil, or_false]; rintro k (rfl | rfl); exact h1; exact h2)
theorem wo_callD {P : Program} {ops : Array Oper} {Q : Exit → Act → World → Prop} (i d : Nat) (v : Value) (R : World → Prop) {K : Act → World → Prop} {o : Oper} {a : Act} {w : World} {f : FuncId} {args : Array Value} (hi : ops[i]? = some o) (hd : o.dst = some d) (hg : o.guard = none)
    (he : (execOp a.eval o).run P w = .ok (.enter f args) w) (hc : Calls P f args w fun e w' => e = .returned v ∧ R w') (h : ∀ w', R w' → K ⟨a.tmps.setIfInBounds d v, a.defers⟩ w') : wpOp P ops Q i K a w := by
  unfold Go.wpOp
  simp only [hi, wanted_free (ops := ops) (x := a.tmps) hg, if_true, Oper.wp, he, Oper.upon]
  refine .inl (hc.mono ?_)
  rintro e w' ⟨rfl, hR⟩
  rw [hd]
  exact h w' hR
theorem wo_stepD {P : Program} {ops : Array Oper} {Q : Exit → Act → World → Prop} (i d : Nat) (v : Value) {K : Act → World → Prop} {o : Oper} {a : Act} {w w' : World} (hi : ops[i]? = some o) (hd : o.dst = some d) (hg : o.guard = none)
    (hy : (execOp a.eval o).run P w = .ok (.value v) w') (h : K ⟨a.tmps.setIfInBounds d v, a.defers⟩ w') : wpOp P ops Q i K a w := by
  unfold Go.wpOp
  simp only [hi, wanted_free (ops := ops) (x := a.tmps) hg, if_true, Oper.wp, hy, Oper.upon]
  rw [hd]
  exact .inl h
/-- Behind the program's Open: the view lies at one block, the copied bytes at another. -/
def WR (W0 : World) (bs : List Int) (nb : Nat) (n wd : Int) (s11 : Value) (wx : World) : Prop :=
  ∃ (g7 gb : Nat) (pa : Option Addr) (pl pc : Nat) (pi pj : Int), s11 = .pointer (some ⟨g7, 0, none⟩) ∧ opVal bs (some ⟨gb, 0, none⟩) nb n wd = .agg #[.slice pa pl pc, .int .i64 pi, .int .i64 pj] ∧
    wx.heap[g7]? = some (.cells #[.slice pa pl pc, .int .i64 pi, .int .i64 pj] 24 (0, 0)) ∧ RowI .u8 5 wx gb bs ∧ Below W0.heap.size W0 wx ∧ W0.heap.size ≤ g7 ∧ W0.heap.size ≤ gb
theorem wh_startN {P : Program} {S : World → Prop} {K : Act → World → Prop} {Q : Exit → Act → World → Prop} {id : Nat} {l : List Oper} {a : Act} {w : World} (n : Nat) (hn : l.toArray.size = n) (hm : P.follows .mixedOrders = true)
    (h : wpAnyH P .any l.toArray (Exit.then K (fun _ _ _ => False)) S n (Array.replicate n false) a w.drew) : (Code.region id l.toArray true).wp P (Exit.then K Q) a w :=
  Code.wp_mono (fun e a w he => by
    cases e with
    | normal => exact he
    | _ => exact absurd he (fun h => h)) (wh_start n hn hm h)
theorem ropen_slice {w : World} {zs : List Int} {n wd : Int} {e : Ending} {w' : World} (h : ROpen w zs n wd e w') : ∃ la ln lc, e = .returned (.tuple #[.slice la ln lc, .int .i64 (opErr zs n wd)]) ∧ Below w.heap.size w w' ∧
    (opErr zs n wd = 0 → wd ≠ 0 → ∃ g, la = some ⟨g, 0, none⟩ ∧ ln = n.toNat ∧ lc = n.toNat ∧ w.heap.size ≤ g ∧ RowI .u64 35 w' g (fillT zs wd.toNat n.toNat n.toNat 0)) := by
  obtain ⟨v, h1, h2, h3, h4⟩ := h
  by_cases hc : opErr zs n wd = 0 ∧ wd ≠ 0
  · obtain ⟨g, rfl, hg, hr⟩ := h3 hc.1 hc.2
    exact ⟨_, _, _, h1, h2, fun _ _ => ⟨g, rfl, rfl, rfl, hg, hr⟩⟩
  · have := h4 (by by_cases h0 : opErr zs n wd = 0; right; exact Decidable.byContradiction fun h => hc ⟨h0, h⟩; exact .inl h0)
    subst this
    exact ⟨_, _, _, h1, h2, fun a b => absurd ⟨a, b⟩ hc⟩
theorem opErr_range {zs : List Int} {n wd : Int} (h : opErr zs n wd = 0) : (0 ≤ wd ∧ wd ≤ 64) ∧ 0 ≤ n ∧ n ≤ 2147483647 := by
  unfold opErr at h
  split at h
  · omega
  · omega
/-- Ahead of the rounds: the document's numbers lie in the box g9. -/
def WG (W9 : World) (w0 g9 : Nat) (bs : List Int) (N D : Nat) (wx : World) : Prop :=
  ∃ (la : Option Addr) (lc : Nat) (zl : List Int), Boxed wx g9 29 (.slice la N lc) ∧ SlI .u64 wx la N lc zl ∧ (∀ i, i < N → zl.getD i 0 = (numT bs D i D : Nat)) ∧ (∀ j, j < g9 → wx.heap[j]? = W9.heap[j]?) ∧ g9 < wx.heap.size ∧ Below w0 W9 wx
/-- What the rounds read. -/
structure PEnv (w0 g9 q N : Nat) (st inn : Int) (la : Option Addr) (lc : Nat) (zl : List Int) (W : World) : Prop where
  b6 : Boxed W w0 3 (.int .i64 (N : Nat))
  b8 : Boxed W (w0 + 1) 3 (.int .i64 st)
  b9 : Boxed W (w0 + 2) 3 (.int .i64 inn)
  b10 : Boxed W (w0 + 3) 4 (.bool false)
  b13 : Boxed W g9 29 (.slice la N lc)
  b15 : Boxed W (q + 1) 33 (.func (.func 47) #[] #[.pointer (some ⟨q, 0, none⟩)])
  sl : SlI .u64 W la N lc zl
theorem PEnv.same {w0 g9 q N : Nat} {st inn : Int} {la : Option Addr} {lc : Nat} {zl : List Int} {W X : World} (h : PEnv w0 g9 q N st inn la lc zl W) (hs : ∀ j, j < W.heap.size → X.heap[j]? = W.heap[j]?) : PEnv w0 g9 q N st inn la lc zl X :=
  ⟨(hs _ (lt_of_block h.b6)).trans h.b6, (hs _ (lt_of_block h.b8)).trans h.b8, (hs _ (lt_of_block h.b9)).trans h.b9, (hs _ (lt_of_block h.b10)).trans h.b10, (hs _ (lt_of_block h.b13)).trans h.b13, (hs _ (lt_of_block h.b15)).trans h.b15, h.sl.sameB hs⟩
theorem prefix_snoc {α : Type} {pre L : List α} (h : pre <+: L) (hl : pre.length < L.length) (x : α) : pre ++ [x] <+: L ↔ x = L[pre.length] := by
  obtain ⟨t, rfl⟩ := h
  cases t with
  | nil => simp at hl
  | cons y t =>
    rw [List.prefix_append_right_inj, List.cons_prefix_cons]
    simp
/-- The frame of a round is this one. -/
def axOf {α : Type} (fr : α → Act) : α → Act → World → Prop := fun x a' _ => a' = fr x
theorem axOf_intro {α : Type} {fr : α → Act} {x : α} {a' : Act} {W : World} (h : fr x = a') : axOf fr x a' W := h.symm
theorem axOf_own {α : Type} {B : Nat} (fr : α → Act) (x : α) (a' : Act) : OwnFrom B (fun (_ : Unit) W => axOf fr x a' W) := fun _ _ _ _ h _ _ => h
def sumF {N : Nat} (pr : List (Fin N)) : Nat := (pr.map Fin.val).sum
theorem sumF_snoc {N : Nat} (pr : List (Fin N)) (z : Fin N) : sumF (pr ++ [z]) = sumF pr + z.val := by simp [sumF]
theorem sumF_le {N : Nat} : ∀ pr : List (Fin N), sumF pr ≤ pr.length * N
  | [] => by simp [sumF]
  | z :: pr => by
    have := sumF_le pr
    have := z.isLt
    simp only [sumF, List.map_cons, List.sum_cons, List.length_cons, Nat.succ_mul] at *
    omega
theorem map_fin (n : Nat) : (List.finRange n).map Fin.val = List.range n := List.ext_getElem (by simp) fun i h1 h2 => by simp
theorem sum_range2 : ∀ n : Nat, (List.range n).sum * 2 = n * (n - 1)
  | 0 => rfl
  | n + 1 => by
    have h := sum_range2 n
    rw [List.range_succ, List.sum_append, Nat.add_mul, h]
    cases n with
    | zero => rfl
    | succ m => simp [Nat.mul_add, Nat.add_mul]; omega
theorem sumF_all (N : Nat) : sumF (List.finRange N) = N * (N - 1) / 2 := by
  have := sum_range2 N
  unfold sumF
  rw [map_fin]; omega
theorem ownFrom_or {β : Type} {B : Nat} {I I' : β → World → Prop} (h : OwnFrom B I) (h' : OwnFrom B I') : OwnFrom B (fun s W => I s W ∨ I' s W) := fun s W W' row hs hg hr => hs.imp (fun hs => h s W W' row hs hg hr) (fun hs => h' s W W' row hs hg hr)
theorem numT_zero (bs : List Int) (i : Nat) : numT bs 0 i 0 = 0 := rfl
set_option maxRecDepth 100000 in
set_option maxHeartbeats 4000000 in
theorem bitswalks_go (w : World) (a : Option Addr) (nb cb : Nat) (zb : List Int) (hrow : IsRow .u8 w a nb cb zb) (hcb : cb * 1 ≤ 140737488351232) (n wd st inn : Int) (hst : (Lit.int .i64 st).wf = true) :
    Calls Try.prog 3 #[.slice a nb cb, .int .i64 n, .int .i64 wd, .int .i64 st, .int .i64 inn] w fun e w' => e = .returned (.bool true) ∧ Below w.heap.size w w' := by
  obtain ⟨hs, hnil, hwf⟩ := hrow.sl
  obtain ⟨bs, hbs⟩ : ∃ bs, bs = zb.take nb := ⟨_, rfl⟩
  rw [← hbs] at hs hwf
  have hu : U8 bs := fun i hi => by
    have := wf_u8 (hwf bs[i] (List.getElem_mem hi))
    simpa [hi] using this
  obtain ⟨st0, st1⟩ := wf_i64 hst
  have hl := hs.len
  have hcap := hs.le
  have hw4 : (((((w.alloc (.cells #[.int .i64 n] 3)).alloc (.cells #[.int .i64 st] 3)).alloc (.cells #[.int .i64 inn] 3)).alloc (.cells #[.bool false] 4))).heap.size = w.heap.size + 4 := by simp
  have hb4 : Below w.heap.size w (((((w.alloc (.cells #[.int .i64 n] 3)).alloc (.cells #[.int .i64 st] 3)).alloc (.cells #[.int .i64 inn] 3)).alloc (.cells #[.bool false] 4))) :=
    ((((Below.refl _ w).alloc (Nat.le_refl _) _).alloc (by simp) _).alloc (by simp; omega) _).alloc (by simp; omega) _
  have c6 := (((Boxed.new w 3 (.int .i64 n)).alloc (.cells #[.int .i64 st] 3)).alloc (.cells #[.int .i64 inn] 3)).alloc (.cells #[.bool false] 4)
  have c8 := ((Boxed.new (w.alloc (.cells #[.int .i64 n] 3)) 3 (.int .i64 st)).alloc (.cells #[.int .i64 inn] 3)).alloc (.cells #[.bool false] 4)
  have c9 := ((Boxed.new ((w.alloc (.cells #[.int .i64 n] 3)).alloc (.cells #[.int .i64 st] 3)) 3 (.int .i64 inn))).alloc (.cells #[.bool false] 4)
  have c10 := (Boxed.new (((w.alloc (.cells #[.int .i64 n] 3)).alloc (.cells #[.int .i64 st] 3)).alloc (.cells #[.int .i64 inn] 3)) 4 (.bool false))
  simp only [World.size_alloc, Nat.add_assoc, Nat.reduceAdd] at c8 c9 c10
  have HS := Lib.hid hs
  have HU := Lib.hid hu
  have HL := Lib.hid hl
  clear hbs hwf hrow hnil hs hu hst hl
  refine (callsIn_wide (n := 10)).1 ?_
  refine callsIn_of_wp_marks Try.func3 rfl trivial ?_ rfl
  simp only [Try.ntmps3, List.size_toArray, List.length_cons, List.length_nil, Nat.reduceAdd, Nat.reduceSub, Array.replicate_succ, Array.replicate_zero, List.push_toArray, List.append_toArray, List.nil_append, List.cons_append]
  refine wpIn_wide.2 ?_
  go_upto_region 1 with fail
  simp only [Nat.add_assoc, Nat.reduceAdd]
  generalize (((((w.alloc (.cells #[.int .i64 n] 3)).alloc (.cells #[.int .i64 st] 3)).alloc (.cells #[.int .i64 inn] 3)).alloc (.cells #[.bool false] 4))) = W0 at hw4 hb4 c6 c8 c9 c10 ⊢
  have hs0 := HS.out.keep hb4
  have HS0 := Lib.hid hs0
  have q6 := c6.cell
  have C6 := Lib.hid c6
  have C8 := Lib.hid c8
  have C9 := Lib.hid c9
  have C10 := Lib.hid c10
  have HB4 := Lib.hid hb4
  clear hs0 c6 c8 c9 c10 hb4
  obtain ⟨E, hE⟩ : ∃ E, E = opErr bs n wd := ⟨_, rfl⟩
  have HE := Lib.hid hE
  clear hE
  go_cut [11, 12] from 24 (fun s11 s12 wx => s12 = .int .i64 E ∧ WR W0 bs nb n wd s11 wx)
  case first =>
    rename_i J1 K1 hJ1 hM1
    have hd0 : (W0.drew).heap.size = w.heap.size + 4 := hw4
    have hB0 : Below W0.heap.size W0 W0.drew := below_drewN (Below.refl _ W0) 1
    have hS : ∀ X, Below W0.heap.size W0 X → X.heap[w.heap.size]? = some (.cells #[.int .i64 n] 3 (0, 0)) := fun X h => (h.block _ (lt_of_block C6.out)).trans C6.out
    refine wh_startN (S := fun w' => w'.heap[w.heap.size]? = some (.cells #[.int .i64 n] 3 (0, 0))) 11 rfl (by kernel_rfl) ?_
    generalize W0.drew = V0 at hd0 hB0 ⊢
    refine wh_takeD 0 25 (.slice a nb cb) rfl rfl rfl (by kernel_rfl) (by kernel_rfl) (by kernel_rfl) (fun _ _ _ _ h => h) (hS _ hB0) (fun w' h => by simp [go_sem]) ?_
    simp only [List.setIfInBounds_toArray, List.set_cons_succ, List.set_cons_zero]
    refine wh_takeD 2 27 (.int .i64 n) rfl rfl rfl (by kernel_rfl) (by kernel_rfl) (by kernel_rfl) (fun _ _ _ _ h => h) (hS _ hB0) (fun w' h => by have := cell_of_one h; simp [go_sem, this]) ?_
    simp only [List.setIfInBounds_toArray, List.set_cons_succ, List.set_cons_zero]
    refine wh_takeD 3 28 (.int .i64 wd) rfl rfl rfl (by kernel_rfl) (by kernel_rfl) (by kernel_rfl) (fun _ _ _ _ h => h) (hS _ hB0) (fun w' h => by simp [go_sem]) ?_
    simp only [List.setIfInBounds_toArray, List.set_cons_succ, List.set_cons_zero]
    refine wh_two 1 8 (by kernel_rfl) ?_ ?_
    · refine wo_callD 1 26 (.slice (some ⟨V0.heap.size, 0, none⟩) nb nb) (fun w' => Fresh .u8 5 V0 w' V0.heap.size bs) rfl rfl rfl (by simp [go_sem])
        (copied_calls V0 a nb cb bs (HS0.out.keep hB0) (by omega)) ?_
      intro w5 fr5
      have h5 : Below W0.heap.size W0 w5 := hB0.trans (fr5.below.mono (by omega))
      refine ⟨hS _ h5, ?_⟩
      simp only [List.setIfInBounds_toArray, List.set_cons_succ, List.set_cons_zero]
      have s5 := fr5.row.sl nb nb (by rw [HL.out]; omega) HL.out (by omega)
      rw [List.take_of_length_le (by rw [HL.out]; omega)] at s5
      have z5 := fr5.row.lt
      obtain ⟨pa, pl, pc, pi, pj, hov⟩ := opVal_agg bs (some ⟨V0.heap.size, 0, none⟩) nb n wd
      refine wh_two 4 8 (by kernel_rfl) ?_ ?_
      · refine wo_callD 4 29 (.tuple #[.agg #[.slice pa pl pc, .int .i64 pi, .int .i64 pj], .int .i64 E]) (fun w' => Below w5.heap.size w5 w') rfl rfl rfl (by simp [go_sem])
          ((popen_calls w5 _ _ _ _ s5 HU.out n wd).mono fun e w' ⟨h1, h2⟩ => ⟨by rw [h1, hov, ← HE.out], h2⟩) ?_
        intro w6 b6
        have h6 : Below W0.heap.size W0 w6 := h5.trans (b6.mono h5.size)
        have z6 := b6.size
        have zz := h6.size
        refine ⟨hS _ h6, ?_⟩
        simp only [List.setIfInBounds_toArray, List.set_cons_succ, List.set_cons_zero]
        refine wh_takeD 5 24 (.tuple #[.agg #[.slice pa pl pc, .int .i64 pi, .int .i64 pj], .int .i64 E]) rfl rfl rfl (by kernel_rfl) (by kernel_rfl) (by kernel_rfl) (fun _ _ _ _ h => h) (hS _ h6) (fun w' h => by simp [go_sem]) ?_
        simp only [List.setIfInBounds_toArray, List.set_cons_succ, List.set_cons_zero]
        refine wh_takeD 6 30 (.agg #[.slice pa pl pc, .int .i64 pi, .int .i64 pj]) rfl rfl rfl (by kernel_rfl) (by kernel_rfl) (by kernel_rfl) (fun _ _ _ _ h => h) (hS _ h6) (fun w' h => by simp [go_sem]) ?_
        simp only [List.setIfInBounds_toArray, List.set_cons_succ, List.set_cons_zero]
        refine wh_takeD 7 31 (.int .i64 E) rfl rfl rfl (by kernel_rfl) (by kernel_rfl) (by kernel_rfl) (fun _ _ _ _ h => h) (hS _ h6) (fun w' h => by simp [go_sem]) ?_
        simp only [List.setIfInBounds_toArray, List.set_cons_succ, List.set_cons_zero]
        refine wh_stepD 8 11 (.pointer (some ⟨w6.heap.size, 0, none⟩)) (w' := w6.alloc (.cells #[.slice none 0 0, .int .i64 0, .int .i64 0] 24)) rfl rfl rfl (by kernel_rfl) (by simp [go_sem]) (hS _ (h6.alloc zz _)) ?_
        simp only [List.setIfInBounds_toArray, List.set_cons_succ, List.set_cons_zero]
        refine wh_skipD 9 (w' := w6.alloc (.cells #[.slice pa pl pc, .int .i64 pi, .int .i64 pj] 24)) rfl rfl rfl (by kernel_rfl) (by simp [go_sem]) (hS _ (h6.alloc zz _)) ?_
        refine wh_takeD 10 12 (.int .i64 E) rfl rfl rfl (by kernel_rfl) (by kernel_rfl) (by kernel_rfl) (fun _ _ _ _ h => h) (hS _ (h6.alloc zz _)) (fun w' h => by simp [go_sem]) ?_
        simp only [List.setIfInBounds_toArray, List.set_cons_succ, List.set_cons_zero]
        refine wpAnyH_done (by kernel_rfl) ?_ 0
        refine hM1 _ _ (Met.intro (hJ1 _ _ ?_))
        (repeat apply Exists.intro)
        refine ⟨?_, rfl⟩
        exact ⟨rfl, _, _, _, _, _, _, _, rfl, hov, heap_alloc_new _ _, (Below.heap_alloc _ _ _ (by omega)).trans ((b6.block _ z5).trans fr5.row), h6.alloc zz _, zz, by omega⟩
      · refine wo_stepD 8 11 (.pointer (some ⟨w5.heap.size, 0, none⟩)) (w' := w5.alloc (.cells #[.slice none 0 0, .int .i64 0, .int .i64 0] 24)) rfl rfl rfl (by simp [go_sem]) ?_
        have hX : Below W0.heap.size W0 (w5.alloc (.cells #[.slice none 0 0, .int .i64 0, .int .i64 0] 24)) := h5.alloc h5.size _
        refine ⟨hS _ hX, ?_⟩
        simp only [List.setIfInBounds_toArray, List.set_cons_succ, List.set_cons_zero]
        have sX := s5.keep ((Below.refl w5.heap.size w5).alloc (Nat.le_refl _) (.cells #[.slice none 0 0, .int .i64 0, .int .i64 0] 24))
        have hnew := heap_alloc_new w5 (.cells #[.slice none 0 0, .int .i64 0, .int .i64 0] 24)
        have rX : RowI .u8 5 (w5.alloc (.cells #[.slice none 0 0, .int .i64 0, .int .i64 0] 24)) V0.heap.size bs := (Below.heap_alloc _ _ _ z5).trans fr5.row
        have zX : (w5.alloc (.cells #[.slice none 0 0, .int .i64 0, .int .i64 0] 24)).heap.size = w5.heap.size + 1 := by simp
        have hgle := h5.size
        generalize w5.alloc (.cells #[.slice none 0 0, .int .i64 0, .int .i64 0] 24) = X at hX sX hnew rX zX ⊢
        refine wh_callD 4 29 (.tuple #[.agg #[.slice pa pl pc, .int .i64 pi, .int .i64 pj], .int .i64 E]) (fun w' => Below X.heap.size X w') rfl rfl rfl (by kernel_rfl) (by simp [go_sem])
          ((popen_calls X _ _ _ _ sX HU.out n wd).mono fun e w' ⟨h1, h2⟩ => ⟨by rw [h1, hov, ← HE.out], h2⟩) (fun w' h => hS _ (hX.trans (h.mono hX.size))) ?_
        intro w6 b6
        have h6 : Below W0.heap.size W0 w6 := hX.trans (b6.mono hX.size)
        have hz6 := (b6.block _ (show w5.heap.size < X.heap.size by omega)).trans hnew
        have r6 := (b6.block _ (show V0.heap.size < X.heap.size by omega)).trans rX
        simp only [List.setIfInBounds_toArray, List.set_cons_succ, List.set_cons_zero]
        refine wh_takeD 5 24 (.tuple #[.agg #[.slice pa pl pc, .int .i64 pi, .int .i64 pj], .int .i64 E]) rfl rfl rfl (by kernel_rfl) (by kernel_rfl) (by kernel_rfl) (fun _ _ _ _ h => h) (hS _ h6) (fun w' h => by simp [go_sem]) ?_
        simp only [List.setIfInBounds_toArray, List.set_cons_succ, List.set_cons_zero]
        refine wh_takeD 6 30 (.agg #[.slice pa pl pc, .int .i64 pi, .int .i64 pj]) rfl rfl rfl (by kernel_rfl) (by kernel_rfl) (by kernel_rfl) (fun _ _ _ _ h => h) (hS _ h6) (fun w' h => by simp [go_sem]) ?_
        simp only [List.setIfInBounds_toArray, List.set_cons_succ, List.set_cons_zero]
        refine wh_takeD 7 31 (.int .i64 E) rfl rfl rfl (by kernel_rfl) (by kernel_rfl) (by kernel_rfl) (fun _ _ _ _ h => h) (hS _ h6) (fun w' h => by simp [go_sem]) ?_
        simp only [List.setIfInBounds_toArray, List.set_cons_succ, List.set_cons_zero]
        have q0 : w6.cell? ⟨w5.heap.size, 0, none⟩ = some (.slice none 0 0) := (cell_of_row _ _ 0 _ _ _ hz6).trans rfl
        have q1 : w6.cell? ⟨w5.heap.size, 1, none⟩ = some (.int .i64 0) := (cell_of_row _ _ 1 _ _ _ hz6).trans rfl
        have q2 : w6.cell? ⟨w5.heap.size, 2, none⟩ = some (.int .i64 0) := (cell_of_row _ _ 2 _ _ _ hz6).trans rfl
        have f6 := fun k => frozen_of_row _ _ k _ _ hz6
        have h9 : Below W0.heap.size W0 (((w6.setCell ⟨w5.heap.size, 0, none⟩ (.slice pa pl pc)).setCell ⟨w5.heap.size, 1, none⟩ (.int .i64 pi)).setCell ⟨w5.heap.size, 2, none⟩ (.int .i64 pj)) := ((h6.setCell (p := ⟨w5.heap.size, 0, none⟩) hgle _).setCell (p := ⟨w5.heap.size, 1, none⟩) hgle _).setCell (p := ⟨w5.heap.size, 2, none⟩) hgle _
        refine wh_skipD 9 (w' := ((w6.setCell ⟨w5.heap.size, 0, none⟩ (.slice pa pl pc)).setCell ⟨w5.heap.size, 1, none⟩ (.int .i64 pi)).setCell ⟨w5.heap.size, 2, none⟩ (.int .i64 pj)) rfl rfl rfl (by kernel_rfl) (by simp [go_sem, q0, q1, q2, f6]) (hS _ h9) ?_
        refine wh_takeD 10 12 (.int .i64 E) rfl rfl rfl (by kernel_rfl) (by kernel_rfl) (by kernel_rfl) (fun _ _ _ _ h => h) (hS _ h9) (fun w' h => by simp [go_sem]) ?_
        simp only [List.setIfInBounds_toArray, List.set_cons_succ, List.set_cons_zero]
        refine wpAnyH_done (by kernel_rfl) ?_ 0
        refine hM1 _ _ (Met.intro (hJ1 _ _ ?_))
        (repeat apply Exists.intro)
        refine ⟨?_, rfl⟩
        exact ⟨rfl, _, _, _, _, _, _, _, rfl, hov, stor3 hz6, (heap_setCell_other _ _ _ _ (by show V0.heap.size ≠ w5.heap.size; omega)).trans ((heap_setCell_other _ _ _ _ (by show V0.heap.size ≠ w5.heap.size; omega)).trans ((heap_setCell_other _ _ _ _ (by show V0.heap.size ≠ w5.heap.size; omega)).trans r6)), h9, hgle, by omega⟩
    · refine wo_stepD 8 11 (.pointer (some ⟨V0.heap.size, 0, none⟩)) (w' := V0.alloc (.cells #[.slice none 0 0, .int .i64 0, .int .i64 0] 24)) rfl rfl rfl (by simp [go_sem]) ?_
      have hX : Below W0.heap.size W0 (V0.alloc (.cells #[.slice none 0 0, .int .i64 0, .int .i64 0] 24)) := hB0.alloc (by omega) _
      refine ⟨hS _ hX, ?_⟩
      simp only [List.setIfInBounds_toArray, List.set_cons_succ, List.set_cons_zero]
      have sX := HS0.out.keep hX
      have hnew := heap_alloc_new V0 (.cells #[.slice none 0 0, .int .i64 0, .int .i64 0] 24)
      have zX : (V0.alloc (.cells #[.slice none 0 0, .int .i64 0, .int .i64 0] 24)).heap.size = V0.heap.size + 1 := by simp
      have hgle := hB0.size
      generalize V0.alloc (.cells #[.slice none 0 0, .int .i64 0, .int .i64 0] 24) = X at hX sX hnew zX ⊢
      refine wh_callD 1 26 (.slice (some ⟨X.heap.size, 0, none⟩) nb nb) (fun w' => Fresh .u8 5 X w' X.heap.size bs) rfl rfl rfl (by kernel_rfl) (by simp [go_sem])
        (copied_calls X a nb cb bs sX (by omega)) (fun w' h => hS _ (hX.trans (h.below.mono hX.size))) ?_
      intro w5 fr5
      have h5 : Below W0.heap.size W0 w5 := hX.trans (fr5.below.mono hX.size)
      simp only [List.setIfInBounds_toArray, List.set_cons_succ, List.set_cons_zero]
      have s5 := fr5.row.sl nb nb (by rw [HL.out]; omega) HL.out (by omega)
      rw [List.take_of_length_le (by rw [HL.out]; omega)] at s5
      have z5 := fr5.row.lt
      obtain ⟨pa, pl, pc, pi, pj, hov⟩ := opVal_agg bs (some ⟨X.heap.size, 0, none⟩) nb n wd
      refine wh_callD 4 29 (.tuple #[.agg #[.slice pa pl pc, .int .i64 pi, .int .i64 pj], .int .i64 E]) (fun w' => Below w5.heap.size w5 w') rfl rfl rfl (by kernel_rfl) (by simp [go_sem])
        ((popen_calls w5 _ _ _ _ s5 HU.out n wd).mono fun e w' ⟨h1, h2⟩ => ⟨by rw [h1, hov, ← HE.out], h2⟩) (fun w' h => hS _ (h5.trans (h.mono h5.size))) ?_
      intro w6 b6
      have h6 : Below W0.heap.size W0 w6 := h5.trans (b6.mono h5.size)
      have hz6 := (b6.block _ (show V0.heap.size < w5.heap.size by omega)).trans ((fr5.below.block _ (by omega)).trans hnew)
      have r6 := (b6.block _ z5).trans fr5.row
      simp only [List.setIfInBounds_toArray, List.set_cons_succ, List.set_cons_zero]
      refine wh_takeD 5 24 (.tuple #[.agg #[.slice pa pl pc, .int .i64 pi, .int .i64 pj], .int .i64 E]) rfl rfl rfl (by kernel_rfl) (by kernel_rfl) (by kernel_rfl) (fun _ _ _ _ h => h) (hS _ h6) (fun w' h => by simp [go_sem]) ?_
      simp only [List.setIfInBounds_toArray, List.set_cons_succ, List.set_cons_zero]
      refine wh_takeD 6 30 (.agg #[.slice pa pl pc, .int .i64 pi, .int .i64 pj]) rfl rfl rfl (by kernel_rfl) (by kernel_rfl) (by kernel_rfl) (fun _ _ _ _ h => h) (hS _ h6) (fun w' h => by simp [go_sem]) ?_
      simp only [List.setIfInBounds_toArray, List.set_cons_succ, List.set_cons_zero]
      refine wh_takeD 7 31 (.int .i64 E) rfl rfl rfl (by kernel_rfl) (by kernel_rfl) (by kernel_rfl) (fun _ _ _ _ h => h) (hS _ h6) (fun w' h => by simp [go_sem]) ?_
      simp only [List.setIfInBounds_toArray, List.set_cons_succ, List.set_cons_zero]
      have q0 : w6.cell? ⟨V0.heap.size, 0, none⟩ = some (.slice none 0 0) := (cell_of_row _ _ 0 _ _ _ hz6).trans rfl
      have q1 : w6.cell? ⟨V0.heap.size, 1, none⟩ = some (.int .i64 0) := (cell_of_row _ _ 1 _ _ _ hz6).trans rfl
      have q2 : w6.cell? ⟨V0.heap.size, 2, none⟩ = some (.int .i64 0) := (cell_of_row _ _ 2 _ _ _ hz6).trans rfl
      have f6 := fun k => frozen_of_row _ _ k _ _ hz6
      have h9 : Below W0.heap.size W0 (((w6.setCell ⟨V0.heap.size, 0, none⟩ (.slice pa pl pc)).setCell ⟨V0.heap.size, 1, none⟩ (.int .i64 pi)).setCell ⟨V0.heap.size, 2, none⟩ (.int .i64 pj)) := ((h6.setCell (p := ⟨V0.heap.size, 0, none⟩) hgle _).setCell (p := ⟨V0.heap.size, 1, none⟩) hgle _).setCell (p := ⟨V0.heap.size, 2, none⟩) hgle _
      refine wh_skipD 9 (w' := ((w6.setCell ⟨V0.heap.size, 0, none⟩ (.slice pa pl pc)).setCell ⟨V0.heap.size, 1, none⟩ (.int .i64 pi)).setCell ⟨V0.heap.size, 2, none⟩ (.int .i64 pj)) rfl rfl rfl (by kernel_rfl) (by simp [go_sem, q0, q1, q2, f6]) (hS _ h9) ?_
      refine wh_takeD 10 12 (.int .i64 E) rfl rfl rfl (by kernel_rfl) (by kernel_rfl) (by kernel_rfl) (fun _ _ _ _ h => h) (hS _ h9) (fun w' h => by simp [go_sem]) ?_
      simp only [List.setIfInBounds_toArray, List.set_cons_succ, List.set_cons_zero]
      refine wpAnyH_done (by kernel_rfl) ?_ 0
      refine hM1 _ _ (Met.intro (hJ1 _ _ ?_))
      (repeat apply Exists.intro)
      refine ⟨?_, rfl⟩
      exact ⟨rfl, _, _, _, _, _, _, _, rfl, hov, stor3 hz6, (heap_setCell_other _ _ _ _ (by show X.heap.size ≠ V0.heap.size; omega)).trans ((heap_setCell_other _ _ _ _ (by show X.heap.size ≠ V0.heap.size; omega)).trans ((heap_setCell_other _ _ _ _ (by show X.heap.size ≠ V0.heap.size; omega)).trans r6)), h9, hgle, by omega⟩
  case rest =>
    obtain ⟨rfl, g7, gb, pa, pl, pc, pi, pj, rfl, hov, hg7, r7, b7, hg70, hgb0⟩ := hcut
    generalize wc = W7 at hg7 r7 b7 ⊢
    have z7 := lt_of_block hg7
    have zb := r7.lt
    rw [hw4] at b7 hg70 hgb0
    have HOV := Lib.hid hov
    clear hov
    have q6 : W7.cell? ⟨w.heap.size, 0, none⟩ = some (.int .i64 n) := cell_of_one ((b7.block _ (by omega)).trans C6.out)
    have s7 := HS.out.keep (HB4.out.trans (b7.mono (by omega)))
    have HG7 := Lib.hid hg7
    have HB7 := Lib.hid b7
    have HR7 := Lib.hid r7
    have HS7 := Lib.hid s7
    clear hg7 b7 r7 s7
    go_upto_region 5 with (go_at_call 12; refine (ropen_calls _ _ _ _ _ HS7.out HU.out n wd).mono ?_; rintro e w8 hro; obtain ⟨la, ln, lc, rfl, b8, hlv⟩ := ropen_slice hro; rw [← HE.out]; (have B8 := Lib.hid b8); (have HLV := Lib.hid hlv); clear b8 hlv hro)
    have b13 := Boxed.new w8 29 (.slice la ln lc)
    have b9 : Below (w.heap.size + 4) W0 (w8.alloc (.cells #[.slice la ln lc] 29)) := (HB7.out.trans (B8.out.mono (by omega))).alloc (by have := B8.out.size; omega) _
    have r9 : RowI .u8 5 (w8.alloc (.cells #[.slice la ln lc] 29)) gb bs := (Below.heap_alloc _ _ _ (by have := B8.out.size; omega)).trans ((B8.out.block _ (by omega)).trans HR7.out)
    have hg9 : (w8.alloc (.cells #[.slice la ln lc] 29)).heap[g7]? = some (.cells #[.slice pa pl pc, .int .i64 pi, .int .i64 pj] 24 (0, 0)) := (Below.heap_alloc _ _ _ (by have := B8.out.size; omega)).trans ((B8.out.block _ (by omega)).trans HG7.out)
    have hl9 : opErr bs n wd = 0 → wd ≠ 0 → ∃ g, la = some ⟨g, 0, none⟩ ∧ ln = n.toNat ∧ lc = n.toNat ∧ g < w8.heap.size ∧ RowI .u64 35 (w8.alloc (.cells #[.slice la ln lc] 29)) g (fillT bs wd.toNat n.toNat n.toNat 0) := fun h1 h2 => by
      obtain ⟨g, e1, e2, e3, e4, e5⟩ := HLV.out h1 h2
      exact ⟨g, e1, e2, e3, e5.lt, (Below.heap_alloc _ _ _ e5.lt).trans e5⟩
    have z9 : (w8.alloc (.cells #[.slice la ln lc] 29)).heap.size = w8.heap.size + 1 := by simp
    have z8 : g7 < w8.heap.size := by have := B8.out.size; omega
    have z8b : gb < w8.heap.size := by have := B8.out.size; omega
    obtain ⟨g9, hg9e⟩ : ∃ g9, g9 = w8.heap.size := ⟨_, rfl⟩
    rw [← hg9e] at z9 z8 z8b b13 hl9 ⊢
    generalize (w8.alloc (.cells #[.slice la ln lc] 29)) = W9 at b13 b9 r9 hg9 hl9 z9 ⊢
    clear B8 HLV hg9e HG7 HB7 HR7 HS7 q6
    have d6 : Boxed W9 (w.heap.size) 3 (.int .i64 n) := (b9.block _ (by omega)).trans C6.out
    have d8 : Boxed W9 (w.heap.size + 1) 3 (.int .i64 st) := (b9.block _ (by omega)).trans C8.out
    have d9 : Boxed W9 (w.heap.size + 2) 3 (.int .i64 inn) := (b9.block _ (by omega)).trans C9.out
    have d10 : Boxed W9 (w.heap.size + 3) 4 (.bool false) := (b9.block _ (by omega)).trans C10.out
    have bw9 : Below w.heap.size w W9 := HB4.out.trans (b9.mono (by omega))
    have q6 := cell_of_one d6
    have q10 := cell_of_one d10
    have f10 := frozen_of_row _ _ 0 _ _ d10
    have D6 := Lib.hid d6
    have D8 := Lib.hid d8
    have D9 := Lib.hid d9
    have D10 := Lib.hid d10
    have B13 := Lib.hid b13
    have BW9 := Lib.hid bw9
    have R9 := Lib.hid r9
    have HG9 := Lib.hid hg9
    have HL9 := Lib.hid hl9
    clear C6 C8 C9 C10 HB4 d6 d8 d9 d10 b9 b13 bw9 r9 hg9 hl9
    have hret : ∀ (tmps : Array Value) (W : World), Boxed W (w.heap.size + 3) 4 (.bool true) → tmps.getD 10 undef = .pointer (some ⟨w.heap.size + 3, 0, none⟩) → (results Try.f3 tmps).run Try.prog W = .ok (.bool true) W := fun tmps W hW ht => by
      have hc := cell_of_one hW
      have ht' : tmps[10]?.getD undef = .pointer (some ⟨w.heap.size + 3, 0, none⟩) := by simpa using ht
      simp [results, Try.results3, go_sem, ht', hc]
    have HRET := Lib.hid hret
    clear hret
    by_cases hE0 : ¬ E = 0
    · have ene : (E != 0) = true := by simp [hE0]
      go_wp2
      show LeavesInM Fence.wide 10 _ _ _ _ _ .returning _
      exact ⟨_, HRET.out _ _ (D10.out.set _) rfl, rfl, BW9.out.setCell (p := ⟨w.heap.size + 3, 0, none⟩) (by show w.heap.size ≤ w.heap.size + 3; omega) _⟩
    · replace hE0 : E = 0 := Decidable.of_not_not hE0
      obtain ⟨⟨hw0, hw1⟩, hn0, hn1⟩ := opErr_range (HE.out.symm.trans hE0)
      obtain ⟨N, rfl⟩ := Int.eq_ofNat_of_zero_le hn0
      obtain ⟨D, rfl⟩ := Int.eq_ofNat_of_zero_le hw0
      have hd : D ≤ 64 := by omega
      have hNb : N ≤ 2147483647 := by omega
      have hEN : (E != 0) = false := by simp [hE0]
      have hop : opErr bs (N : Nat) (D : Nat) = 0 := HE.out.symm.trans hE0
      obtain ⟨_, _, hbl, _⟩ := opErr_zero hop
      have HBL := Lib.hid hbl
      have HOP := Lib.hid hop
      clear hbl hop hE0
      by_cases hbig : D = 0 ∧ 1000 < N
      · have ed : ((D : Int) == 0) = true := by simp [hbig.1]
        have en : decide ((1000 : Int) < N) = true := decide_eq_true (by omega)
        obtain ⟨hD0, hN1⟩ := hbig
        have HD0 := Lib.hid hD0
        clear hD0
        go_wp2
        show LeavesInM Fence.wide 10 _ _ _ _ _ .returning _
        exact ⟨_, HRET.out _ _ (D10.out.set _) rfl, rfl, BW9.out.setCell (p := ⟨w.heap.size + 3, 0, none⟩) (by show w.heap.size ≤ w.heap.size + 3; omega) _⟩
      · go_cut [51] from 24 (fun s51 wx => s51 = .bool false ∧ wx = W9)
        case first =>
          by_cases hD0 : D = 0
          · have ed : ((D : Int) == 0) = true := by simp [hD0]
            have en : decide ((1000 : Int) < N) = false := decide_eq_false (by omega)
            have HD0 := Lib.hid hD0
            clear hD0 hbig
            go_wp2
            go_meet
            exact ⟨rfl, rfl⟩
          · have ed : ((D : Int) == 0) = false := by simp [hD0]
            clear hbig
            go_wp2
            go_meet
            exact ⟨rfl, rfl⟩
        case rest =>
          obtain ⟨rfl, rfl⟩ := hcut
          generalize wc = W9 at *
          go_upto_if 53 with fail
          go_cut [] from 24 (fun wx => WG W9 w.heap.size g9 bs N D wx)
          case first =>
            by_cases hD0 : D = 0
            · have ed : ((D : Int) == 0) = true := by simp [hD0]
              have HD0 := Lib.hid hD0
              clear hD0
              have q13 := B13.out.cell
              have f13 := frozen_of_row _ _ 0 _ _ B13.out
              go_wp2_with (at_make; refine wpList_mkJ rfl _ _ 29 rfl 35 (.int .u64 0) 8 Try.underlying29 Try.infoU64 rfl _ _ _ _ N rfl rfl rfl rfl (by omega) (by omega) ?_; intro w1 hw1 hb1; have q13' := cell_of_one ((hb1.block _ (lt_of_block B13.out) (by simp)).trans B13.out); have f13' := frozen_of_row _ _ 0 _ _ ((hb1.block _ (lt_of_block B13.out) (by simp)).trans B13.out))
              go_meet
              have z13 := lt_of_block B13.out
              have hbx : Boxed w1 g9 29 (.slice la ln lc) := (hb1.block _ z13 (by simp)).trans B13.out
              have row1 : RowI .u64 35 w1 (g9 + 1) (List.replicate N 0) := by unfold RowI; rw [List.map_replicate, ← z9]; exact hw1
              have row2 : RowI .u64 35 (w1.setCell ⟨g9, 0, none⟩ (.slice (some ⟨g9 + 1, 0, none⟩) N N)) (g9 + 1) (List.replicate N 0) := (heap_setCell_other _ _ _ _ (by show g9 + 1 ≠ g9; omega)).trans row1
              have B1 : Below w.heap.size W9 w1 := (below_of_grown hb1 (Nat.le_refl _) (by simp)).mono (by omega)
              have hsl := row2.sl N N (by simp) (by simp) (by omega)
              refine ⟨some ⟨g9 + 1, 0, none⟩, N, _, hbx.set _, hsl, fun i hi => ?_, fun j hj => ?_, ?_, B1.setCell (p := ⟨g9, 0, none⟩) (by show w.heap.size ≤ g9; omega) _⟩
              · rw [HD0.out]; simp [hi, numT_zero]
              · exact (heap_setCell_other _ _ _ _ (by show j ≠ g9; omega)).trans (hb1.block _ (by omega) (by simp))
              · have := row1.lt; simp; omega
            · have ed : ((D : Int) == 0) = false := by simp [hD0]
              go_wp2
              go_meet
              obtain ⟨g, e1, e2, e3, hgl, hr⟩ := HL9.out HOP.out (by omega)
              simp only [Int.toNat_natCast] at hr e2 e3
              have hb := B13.out
              rw [e1, e2, e3] at hb
              have hsl := hr.sl N N (by rw [fill_len]; omega) (fill_len _ _ _ _ _) (by omega)
              rw [List.take_of_length_le (by rw [fill_len]; omega)] at hsl
              exact ⟨_, N, _, hb, hsl, (fun i hi => fill_all i hi), fun j hj => rfl, by omega, Below.refl _ _⟩
          case rest =>
            obtain ⟨la, lc, zl, h13, hsl, hzl, hsm, hz13, hbel⟩ := hcut
            generalize wc = WA at h13 hsl hsm hz13 hbel ⊢
            have hov2 : (Value.agg #[.slice pa pl pc, .int .i64 pi, .int .i64 pj]) = .agg (pkCs (some ⟨gb, 0, none⟩) nb nb N D) := by
              rw [← HOV.out]; unfold opVal; rw [if_pos HOP.out, HL.out]; rfl
            have hpk : WA.heap[g7]? = some (.cells (pkCs (some ⟨gb, 0, none⟩) nb nb N D) 24 (0, 0)) := by
              have := (hsm g7 (by omega)).trans HG9.out
              rw [this]; injection hov2 with h; rw [h]
            have a6 : Boxed WA w.heap.size 3 (.int .i64 N) := (hsm _ (by omega)).trans D6.out
            have a8 : Boxed WA (w.heap.size + 1) 3 (.int .i64 st) := (hsm _ (by omega)).trans D8.out
            have a9 : Boxed WA (w.heap.size + 2) 3 (.int .i64 inn) := (hsm _ (by omega)).trans D9.out
            have a10 : Boxed WA (w.heap.size + 3) 4 (.bool false) := (hsm _ (by omega)).trans D10.out
            have arow : RowI .u8 5 WA gb bs := (hsm _ (by omega)).trans R9.out
            have hBA : Below w.heap.size w WA := BW9.out.trans hbel
            have sbs := arow.sl nb nb (by rw [HL.out]; omega) HL.out (by omega)
            rw [List.take_of_length_le (by rw [HL.out]; omega)] at sbs
            have hgA1 : w.heap.size + 4 ≤ g9 := by omega
            have hg79 : g7 < g9 := by omega
            have c5 : ∀ k (v : Value), #[Value.slice (some ⟨gb, 0, none⟩) nb nb, .int .i64 (N : Nat), .int .i64 (D : Nat)][k]? = some v → WA.cell? ⟨g7, k, none⟩ = some v := fun k v hv => (cell_of_row WA g7 k _ _ _ hpk).trans hv
            have q0 := c5 0 _ rfl
            have q1 := c5 1 _ rfl
            have q2 := c5 2 _ rfl
            have A6 := Lib.hid a6
            have A8 := Lib.hid a8
            have A9 := Lib.hid a9
            have A10 := Lib.hid a10
            have SBS := Lib.hid sbs
            have HBA := Lib.hid hBA
            have H13 := Lib.hid h13
            have HSL := Lib.hid hsl
            have HZL := Lib.hid hzl
            have hndL : N * D ≤ 8 * nb := by have := HBL.out; have := HL.out; omega
            have HND := Lib.hid hndL
            have hnil : ∀ (p : Value) (w : World), (binOp .eql 33 (.func (.func 47) #[] #[p]) .nilFunc).run Try.prog w = .ok (.bool false) w := fun p w => by kernel_rfl
            clear h13 hsl hzl hsm hbel hov2 hpk a6 a8 a9 a10 arow hBA sbs c5 D6 D8 D9 D10 B13 BW9 R9 HG9 HL9 HOV hndL q6 q10 f10
            rename_i Q2 K2 a2
            refine a2 _ _ ?_
            clear a2 K2
            refine (wpIn_wide (n := 10)).1 ?_
            gi_wp2_with (refine ⟨trivial, ?_⟩; gi_at_call 13; refine (pall_in _ _ _ _ _ _ _).mono ?_; rintro e w' ⟨rfl, rfl⟩)
            refine wpIn_loop_rounds 3 ?_
            rw [roundsIn_succ]
            gi_wp2
            obtain ⟨q, hq⟩ : ∃ q, q = WA.heap.size := ⟨_, rfl⟩
            simp only [Nat.add_assoc, Nat.reduceAdd]
            rw [← hq]
            have m15 := Boxed.new (WA.alloc (.cells (pkCs (some ⟨gb, 0, none⟩) nb nb N D) 24)) 33 (.func (.func 47) #[] #[.pointer (some ⟨q, 0, none⟩)])
            have mpk : ((WA.alloc (.cells (pkCs (some ⟨gb, 0, none⟩) nb nb N D) 24)).alloc (.cells #[.func (.func 47) #[] #[.pointer (some ⟨q, 0, none⟩)]] 33)).heap[q]? = some (.cells (pkCs (some ⟨gb, 0, none⟩) nb nb N D) 24 (0, 0)) :=
              (Below.heap_alloc _ _ _ (by simp; omega)).trans (by rw [hq]; exact heap_alloc_new WA _)
            have zq : ((WA.alloc (.cells (pkCs (some ⟨gb, 0, none⟩) nb nb N D) 24)).alloc (.cells #[.func (.func 47) #[] #[.pointer (some ⟨q, 0, none⟩)]] 33)).heap.size = q + 2 := by simp [hq]
            have eqs : ∀ j, j < WA.heap.size → ((WA.alloc (.cells (pkCs (some ⟨gb, 0, none⟩) nb nb N D) 24)).alloc (.cells #[.func (.func 47) #[] #[.pointer (some ⟨q, 0, none⟩)]] 33)).heap[j]? = WA.heap[j]? := fun j hj =>
              (Below.heap_alloc _ _ _ (by simp; omega)).trans (Below.heap_alloc _ _ _ hj)
            have hBq : Below w.heap.size w ((WA.alloc (.cells (pkCs (some ⟨gb, 0, none⟩) nb nb N D) 24)).alloc (.cells #[.func (.func 47) #[] #[.pointer (some ⟨q, 0, none⟩)]] 33)) :=
              (HBA.out.alloc HBA.out.size _).alloc (by have := HBA.out.size; simp; omega) _
            rw [World.size_alloc, ← hq] at m15
            generalize ((WA.alloc (.cells (pkCs (some ⟨gb, 0, none⟩) nb nb N D) 24)).alloc (.cells #[.func (.func 47) #[] #[.pointer (some ⟨q, 0, none⟩)]] 33)) = Wq at m15 mpk zq eqs hBq ⊢
            have hE0 : PEnv w.heap.size g9 q N st inn la lc zl Wq :=
              ⟨(eqs _ (lt_of_block A6.out)).trans A6.out, (eqs _ (lt_of_block A8.out)).trans A8.out, (eqs _ (lt_of_block A9.out)).trans A9.out, (eqs _ (lt_of_block A10.out)).trans A10.out, (eqs _ (lt_of_block H13.out)).trans H13.out, m15, HSL.out.sameB eqs⟩
            have sq := SBS.out.sameB eqs
            have hst : ∀ (n : Nat) (W : World), 1 ≤ n → Wq.heap.size ≤ W.heap.size → (∀ j, j < Wq.heap.size → W.heap[j]? = Wq.heap[j]?) →
                SeqStopsK Fence.wide n Try.prog 47 #[.pointer (some ⟨q, 0, none⟩)] (encF bs D N) (SmQ Wq) (fun ys => ys = List.finRange N) (fun pre => pre <+: List.finRange N) N W := fun n W hn hz hs =>
              pallF_in n hn Wq (some ⟨gb, 0, none⟩) nb nb N D bs sq HU.out hd hNb HND.out q (by omega) W hz hs ((hs q (by omega)).trans mpk)
            have hkb := (Boxed.new Wq 3 (.int .i64 0)).alloc (.cells #[.int .i64 0] 3)
            have hib := Boxed.new (Wq.alloc (.cells #[.int .i64 0] 3)) 3 (.int .i64 0)
            have hB1 := (hBq.alloc hBq.size (.cells #[.int .i64 0] 3)).alloc (by have := hBq.size; simp; omega) (.cells #[.int .i64 0] 3)
            have hz1 : ((Wq.alloc (.cells #[.int .i64 0] 3)).alloc (.cells #[.int .i64 0] 3)).heap.size = q + 4 := by simp [zq]
            have hsm1 : ∀ j, j < Wq.heap.size → ((Wq.alloc (.cells #[.int .i64 0] 3)).alloc (.cells #[.int .i64 0] 3)).heap[j]? = Wq.heap[j]? := fun j hj => (Below.heap_alloc _ _ _ (by simp; omega)).trans (Below.heap_alloc _ _ _ hj)
            simp only [World.size_alloc, zq, Nat.add_assoc, Nat.reduceAdd] at hkb hib
            generalize ((Wq.alloc (.cells #[.int .i64 0] 3)).alloc (.cells #[.int .i64 0] 3)) = W1 at hkb hib hB1 hz1 hsm1 ⊢
            have hwq : w.heap.size + 4 < q := by omega
            have HST := Lib.hid hst
            have HE := Lib.hid hE0
            clear hst hE0 sq eqs m15 mpk A6 A8 A9 A10 H13 HSL SBS HBA hBq hq q0 q1 q2
            -- ROUNDS
            rename_i K3 a3
            refine wpIn_rangeFunc_ownH (α := Fin N) rfl (by omega) (gf := 47) (lb := #[.pointer (some ⟨q, 0, none⟩)]) rfl trivial (enters_of Try.func47 (by kernel_rfl) rfl)
              (HST.out 9 W1 (by omega) (by omega) hsm1) (fun h k => fun j hj => (k j hj).trans (h j hj)) (fun W l o o' hl h1 h2 h3 => fun j hj => World.putObj_heap_other (by omega)) (Below.refl _ _) (fun _ => rfl)
              (fun pre Zb => pre <+: List.finRange N ∧ ¬ (0 ≤ st ∧ st < pre.length) ∧ Boxed Zb ((q + 2) + 1) 3 (.int .i64 (pre.length : Nat)) ∧ Carry W1 ((q + 2) + 1) Zb ∧ Below w.heap.size w Zb)
              (fun c pre Zb => (c = .ret ∧ ¬ pre <+: List.finRange N) ∨ (c = .exit 2 ∧ (0 ≤ st ∧ (pre.length : Int) = st + 1) ∧ Boxed Zb ((q + 2) + 1) 3 (.int .i64 (pre.length : Nat)) ∧ Carry W1 ((q + 2) + 1) Zb ∧ Below w.heap.size w Zb))
              (OwnFrom.and (ownFrom_pure _ _) (OwnFrom.and (ownFrom_pure _ (fun (pre : List (Fin N)) => ¬ (0 ≤ st ∧ st < pre.length))) (OwnFrom.and (Own.from (boxed_own _ _ _) _) (OwnFrom.and (carry_own _ _) (ownFrom_below (Nat.le_refl _) (by omega))))))
              (fun c => ?own)
              ⟨List.nil_prefix, (by simp), hib, Carry.refl _ _, hB1⟩
              (axOf ?fr) (axOf_own _) ?assign ?body ?done ?stop
            case own =>
              refine ownFrom_or (OwnFrom.and (ownFrom_pure _ (fun _ => c = .ret)) (ownFrom_pure _ (fun (pre : List (Fin N)) => ¬ pre <+: List.finRange N))) (OwnFrom.and (ownFrom_pure _ (fun _ => c = .exit 2)) (OwnFrom.and (ownFrom_pure _ (fun (pre : List (Fin N)) => 0 ≤ st ∧ (pre.length : Int) = st + 1)) (OwnFrom.and (Own.from (boxed_own _ _ _) _) (OwnFrom.and (carry_own _ _) (ownFrom_below (Nat.le_refl _) (by omega))))))
            case assign =>
              intro l pre x X K hI hK
              unfold encF encP
              gi_wp2
              refine hK _ _ (KeepsFrom.refl _ _) (fun j hj => rfl) hI ?_
              refine axOf_intro ?_
              exact Eq.refl _
            case body =>
              rintro l pre x a' X hl ⟨r0, hr0⟩ ⟨hpre, hns, hbi, hCa, hBX⟩ rfl hlt
              have hXs : (q + 2) + 2 ≤ X.heap.size := by have := hCa.1; omega
              have hsX : ∀ j, j < Wq.heap.size → X.heap[j]? = Wq.heap[j]? := fun j hj => (hCa.2 j (by omega) (by omega)).trans (hsm1 j hj)
              have E := HE.out.same hsX
              have h6 := E.b6.cell
              have h8 := E.b8.cell
              have h9 := E.b9.cell
              have h10 := E.b10.cell
              have f10 := frozen_of_row _ _ 0 _ _ E.b10
              have h13 := E.b13.cell
              have h15 := E.b15.cell
              have h15j := fun o => (E.b15.alloc o).cell
              have h16 := (hCa.box hkb (by omega)).cell
              have h17 := hbi.cell
              have f17 := frozen_of_row _ _ 0 _ _ hbi
              obtain ⟨i, hi⟩ := x
              by_cases hx : i = pre.length
              · have hsn : pre ++ [⟨i, hi⟩] <+: List.finRange N := (prefix_snoc hpre (by rw [List.length_finRange]; exact hlt) _).2 (by simp [hx])
                have hlen : (((pre ++ [(⟨i, hi⟩ : Fin N)]).length : Nat) : Int) = (pre.length : Int) + 1 := by simp
                rw [← hx] at h17 hlen
                obtain ⟨gl, go, hea, hc⟩ := E.sl.cell i hi
                rw [HZL.out i hi] at hc
                have e1 : decide ((N : Int) ≤ (i : Int)) = false := decide_eq_false (by omega)
                have hil : i < N := hi
                have hfin : ∀ Z : World, Boxed Z ((q + 2) + 1) 3 (.int .i64 (i : Nat)) → Carry W1 ((q + 2) + 1) Z → Below w.heap.size w Z → KeepsFrom W1.heap.size X Z → SmQ Wq X Z →
                    KeepsFrom W1.heap.size X (Z.setCell ⟨((q + 2) + 1), 0, none⟩ (.int .i64 ((i : Int) + 1))) ∧ SmQ Wq X (Z.setCell ⟨((q + 2) + 1), 0, none⟩ (.int .i64 ((i : Int) + 1))) ∧
                    Boxed (Z.setCell ⟨((q + 2) + 1), 0, none⟩ (.int .i64 ((i : Int) + 1))) ((q + 2) + 1) 3 (.int .i64 ((pre ++ [(⟨i, hi⟩ : Fin N)]).length : Nat)) ∧ Carry W1 ((q + 2) + 1) (Z.setCell ⟨((q + 2) + 1), 0, none⟩ (.int .i64 ((i : Int) + 1))) ∧ Below w.heap.size w (Z.setCell ⟨((q + 2) + 1), 0, none⟩ (.int .i64 ((i : Int) + 1))) := by
                  intro Z hZ hc hb hk hp
                  rw [hlen]
                  exact ⟨hk.trans ((KeepsOthers.setCell _ _ _).from _), (fun j hj => (heap_setCell_other _ _ _ _ (by show j ≠ ((q + 2) + 1); omega)).trans (hp j hj)), hZ.set _, ⟨by have := hc.1; simpa using this, fun j hj hB => (heap_setCell_other _ _ _ _ (by simpa using hB)).trans (hc.2 j hj hB)⟩, hb.setCell (p := ⟨((q + 2) + 1), 0, none⟩) (by show w.heap.size ≤ ((q + 2) + 1); omega) _⟩
                have hl0 : ∀ o, (X.alloc o).heap[l]? = some (.loop r0) := fun o => (Below.heap_alloc _ _ _ (Array.getElem?_eq_some_iff.1 hr0).1).trans hr0
                have HL0 := Lib.hid hl0
                have HFIN := Lib.hid hfin
                have HLEN := Lib.hid hlen
                have HSN := Lib.hid hsn
                rw [← hx] at hbi
                have HBI := Lib.hid hbi
                have HCA := Lib.hid hCa
                have HBX := Lib.hid hBX
                have HEX := Lib.hid E
                have HX := Lib.hid hx
                have HSX := Lib.hid hsX
                have HNS := Lib.hid hns
                clear hfin hlen hl0 hr0 hbi hsn hCa hBX E hx hsX hns
                by_cases hin : (i : Int) = inn
                · rw [← hin] at h9
                  have HIN := Lib.hid hin
                  clear hin
                  gi_wp2
                  have hjb := Boxed.new X 3 (.int .i64 0)
                  have hkX : KeepsFrom W1.heap.size X (X.alloc (.cells #[.int .i64 0] 3)) := (KeepsOthers.alloc _ _).from _
                  have hBY := HBX.out.alloc (by omega) (.cells #[.int .i64 0] 3)
                  have hiY := HBI.out.alloc (.cells #[.int .i64 0] 3)
                  have hcY := HCA.out.new (.cells #[.int .i64 0] 3)
                  have hl0 := HL0.out (.cells #[.int .i64 0] 3)
                  have hzY : (X.alloc (.cells #[.int .i64 0] 3)).heap.size = X.heap.size + 1 := by simp
                  have hsXY : ∀ j, j < Wq.heap.size → (X.alloc (.cells #[.int .i64 0] 3)).heap[j]? = X.heap[j]? := fun j hj => Below.heap_alloc _ _ _ (by omega)
                  generalize X.alloc (.cells #[.int .i64 0] 3) = Y at hjb hkX hBY hiY hcY hl0 hzY hsXY ⊢
                  have hsY : ∀ j, j < Wq.heap.size → Y.heap[j]? = Wq.heap[j]? := fun j hj => (hsXY j hj).trans (HSX.out j hj)
                  have HSY := Lib.hid hsY
                  have HSXY := Lib.hid hsXY
                  clear hea hc h6 h8 h9 h10 h13 h15 h16 h17 f10 f17 h15j hsXY hsY
                  refine wpIn_rangeFunc_ownN (α := Fin N) (l₀ := l) (r₀ := r0) rfl hl0 (by omega) (gf := 47) (lb := #[.pointer (some ⟨q, 0, none⟩)]) rfl trivial (enters_of Try.func47 (by kernel_rfl) rfl)
                    (SeqStopsK.inRound l (HST.out 7 Y (by omega) (by omega) HSY.out)) (fun h k => fun j hj => (k j hj).trans (h j hj)) (fun W l o o' hl h1 h2 h3 => fun j hj => World.putObj_heap_other (by omega)) (Below.refl _ _) (fun _ => rfl)
                    (fun pr Z => pr.length ≤ N ∧ Boxed Z X.heap.size 3 (.int .i64 (sumF pr : Nat)) ∧ Carry Y X.heap.size Z ∧ KeepsFrom W1.heap.size X Z ∧ Below w.heap.size w Z)
                    (fun c pr Z => False)
                    (OwnFrom.and (ownFrom_pure _ (fun (pr : List (Fin N)) => pr.length ≤ N)) (OwnFrom.and (Own.from (boxed_own _ _ _) _) (OwnFrom.and (carry_own _ _) (OwnFrom.and (ownFrom_keepsFrom (by omega)) (ownFrom_below (Nat.le_refl _) (by omega))))))
                    (fun c => ownFrom_pure _ (fun _ => False))
                    ⟨by simp, hjb, Carry.refl _ _, hkX, hBY⟩
                    (axOf ?fr2) (axOf_own _) ?assign2 ?body2 ?done2 ?stop2
                  case assign2 =>
                    intro l2 pr z Z K hI hK
                    unfold encF encP
                    gi_wp2
                    refine hK _ _ (KeepsFrom.refl _ _) (fun j hj => rfl) hI ?_
                    refine axOf_intro ?_
                    exact Eq.refl _
                  case stop2 =>
                    rintro c pr Z hSp hf
                    exact hf.elim
                  case body2 =>
                    rintro l2 pr z a' Z hl2 _ ⟨hpr, hji, hCZ, hkZ, hBZ⟩ rfl hlt2
                    have hsZ : ∀ j, j < Wq.heap.size → Z.heap[j]? = Wq.heap[j]? := fun j hj => (hCZ.2 j (by omega) (by omega)).trans (HSY.out j hj)
                    have EZ := HE.out.same hsZ
                    have h10 := EZ.b10.cell
                    have h13 := EZ.b13.cell
                    have h20 := hji.cell
                    have f20 := frozen_of_row _ _ 0 _ _ hji
                    obtain ⟨jz, hjz⟩ := z
                    obtain ⟨gz, goz, hez, hcz⟩ := EZ.sl.cell jz hjz
                    rw [HZL.out jz hjz] at hcz
                    have hjl : jz < N := hjz
                    have hsb := sumF_le pr
                    have hsq : pr.length * N ≤ 2147483647 * 2147483647 := Nat.mul_le_mul (by omega) (by omega)
                    have hsn2 := sumF_snoc pr ⟨jz, hjz⟩
                    have hpl : (pr ++ [(⟨jz, hjz⟩ : Fin N)]).length ≤ N := by simp; omega
                    generalize hS : sumF pr = S at *
                    have hS1 : S ≤ 4611686014132420609 := by omega
                    have hfin2 : KeepsFrom Y.heap.size Z (Z.setCell ⟨X.heap.size, 0, none⟩ (.int .i64 ((S : Int) + (jz : Int)))) ∧ SmQ Wq Z (Z.setCell ⟨X.heap.size, 0, none⟩ (.int .i64 ((S : Int) + (jz : Int)))) ∧ (pr ++ [(⟨jz, hjz⟩ : Fin N)]).length ≤ N ∧
                        Boxed (Z.setCell ⟨X.heap.size, 0, none⟩ (.int .i64 ((S : Int) + (jz : Int)))) X.heap.size 3 (.int .i64 (sumF (pr ++ [(⟨jz, hjz⟩ : Fin N)]) : Nat)) ∧ Carry Y X.heap.size (Z.setCell ⟨X.heap.size, 0, none⟩ (.int .i64 ((S : Int) + (jz : Int)))) ∧
                        KeepsFrom W1.heap.size X (Z.setCell ⟨X.heap.size, 0, none⟩ (.int .i64 ((S : Int) + (jz : Int)))) ∧ Below w.heap.size w (Z.setCell ⟨X.heap.size, 0, none⟩ (.int .i64 ((S : Int) + (jz : Int)))) := by
                      rw [hsn2, Int.natCast_add]
                      exact ⟨(KeepsOthers.setCell _ _ _).from _, (fun j hj => heap_setCell_other _ _ _ _ (by show j ≠ X.heap.size; omega)), hpl, hji.set _, hCZ.set _, hkZ.trans ((KeepsOthers.setCell _ _ _).from _), hBZ.setCell (p := ⟨X.heap.size, 0, none⟩) (by show w.heap.size ≤ X.heap.size; omega) _⟩
                    have HF2 := Lib.hid hfin2
                    clear hji hCZ hBZ hkZ EZ hfin2 hsn2 hpl hsb hsq hS hsZ hpr
                    gi_wp2
                    exact HF2.out
                  case done2 =>
                    rintro ys Z rfl ⟨hpr, hji, hCZ, hkZ, hBZ⟩
                    have hsZY : ∀ j, j < Wq.heap.size → Z.heap[j]? = Y.heap[j]? := fun j hj => hCZ.2 j (by omega) (by omega)
                    have hsZ : ∀ j, j < Wq.heap.size → Z.heap[j]? = Wq.heap[j]? := fun j hj => (hsZY j hj).trans (HSY.out j hj)
                    have EZ := HE.out.same hsZ
                    have hcZ := hcY.then hCZ (by omega)
                    have hiZ := hCZ.box hiY (by omega)
                    obtain ⟨k1, k2, k3, k4, k5⟩ := HFIN.out Z hiZ hcZ hBZ hkZ (fun j hj => (hsZY j hj).trans (HSXY.out j hj))
                    have h6 := EZ.b6.cell
                    have h8 := EZ.b8.cell
                    have h10 := EZ.b10.cell
                    have h16 := (hcZ.box hkb (by omega)).cell
                    have h17 := hiZ.cell
                    have h20 := hji.cell
                    have f17 := frozen_of_row _ _ 0 _ _ hiZ
                    rw [sumF_all] at h20
                    obtain ⟨P, hP⟩ : ∃ P, P = N * (N - 1) := ⟨_, rfl⟩
                    have hP1 : P ≤ 2147483647 * 2147483647 := by rw [hP]; exact Nat.mul_le_mul (by omega) (by omega)
                    have hPN : (N : Int) * ((N : Int) - 1) = (P : Int) := by rw [hP, Int.natCast_mul, Int.natCast_sub (by omega)]; rfl
                    rw [← hP] at h20
                    obtain ⟨T, hT⟩ : ∃ T, T = P / 2 := ⟨_, rfl⟩
                    have hPT : (P : Int) / 2 = (T : Int) := by omega
                    rw [← hT] at h20
                    have K1' := Lib.hid k1
                    have K2' := Lib.hid k2
                    have K3' := Lib.hid k3
                    have K4' := Lib.hid k4
                    have K5' := Lib.hid k5
                    clear k1 k2 k3 k4 k5 hpr hji hCZ hkZ hBZ EZ hcZ hiZ hiY hcY hjb hkX hBY hP hT hsZY hsZ
                    by_cases hstp : (i : Int) = st
                    · rw [← hstp] at h8
                      have hlst := HLEN.out
                      rw [hstp] at hlst
                      have HLS := Lib.hid (And.intro (show 0 ≤ st by omega) hlst)
                      clear hlst hstp
                      gi_wp2
                      exact ⟨K1'.out, .inr ⟨rfl, HLS.out, K3'.out, K4'.out, K5'.out⟩⟩
                    · have est : ((i : Int) == st) = false := by simp [hstp]
                      have hns2 : ¬ (0 ≤ st ∧ st < ((pre ++ [(⟨i, hi⟩ : Fin N)]).length : Nat)) := fun h => by
                        have h1 := HLEN.out
                        have h2 := HNS.out
                        have h3 := HX.out
                        omega
                      have HN2 := Lib.hid hns2
                      clear hns2 hstp
                      gi_wp2
                      exact ⟨K1'.out, K2'.out, HSN.out, HN2.out, K3'.out, K4'.out, K5'.out⟩
                · have ein : ((i : Int) == inn) = false := by simp [hin]
                  obtain ⟨k1, k2, k3, k4, k5⟩ := HFIN.out X HBI.out HCA.out HBX.out (KeepsFrom.refl _ _) (fun j hj => rfl)
                  have K1' := Lib.hid k1
                  have K2' := Lib.hid k2
                  have K3' := Lib.hid k3
                  have K4' := Lib.hid k4
                  have K5' := Lib.hid k5
                  clear k1 k2 k3 k4 k5 hin
                  by_cases hstp : (i : Int) = st
                  · rw [← hstp] at h8
                    have hlst := HLEN.out
                    rw [hstp] at hlst
                    have HLS := Lib.hid (And.intro (show 0 ≤ st by omega) hlst)
                    clear hlst hstp
                    gi_wp2
                    exact ⟨K1'.out, .inr ⟨rfl, HLS.out, K3'.out, K4'.out, K5'.out⟩⟩
                  · have est : ((i : Int) == st) = false := by simp [hstp]
                    have hns2 : ¬ (0 ≤ st ∧ st < ((pre ++ [(⟨i, hi⟩ : Fin N)]).length : Nat)) := fun h => by
                      have h1 := HLEN.out
                      have h2 := HNS.out
                      have h3 := HX.out
                      omega
                    have HN2 := Lib.hid hns2
                    clear hns2 hstp
                    gi_wp2
                    exact ⟨K1'.out, K2'.out, HSN.out, HN2.out, K3'.out, K4'.out, K5'.out⟩
              · have hbadp : ¬ pre ++ [⟨i, hi⟩] <+: List.finRange N := fun h => by
                  have := (prefix_snoc hpre (by rw [List.length_finRange]; exact hlt) _).1 h
                  simp at this
                  exact hx this
                have e1 : ((i : Int) != (pre.length : Int)) = true := by simp; omega
                have HBP := Lib.hid hbadp
                clear hbadp hx
                gi_wp2
                have hbadp := HBP.out
                exact ⟨(KeepsOthers.setCell _ _ _).from _, .inl ⟨rfl, hbadp⟩⟩
            case done =>
              rintro Df ys X hD rfl ⟨hpre, hns, hbi, hCa, hBX⟩ hK
              rw [List.length_finRange] at hbi hns
              refine a3 _ _ ?_
              by_cases hs0 : 0 ≤ st
              · have es1 : decide (0 ≤ st) = true := decide_eq_true hs0
                have es2 : decide (st < (N : Int)) = false := decide_eq_false (by omega)
                clear hns hpre
                have h16 := (hCa.box hkb (by omega)).cell
                have h17 := hbi.cell
                have hsX : ∀ j, j < Wq.heap.size → X.heap[j]? = Wq.heap[j]? := fun j hj => (hCa.2 j (by omega) (by omega)).trans (hsm1 j hj)
                have E := HE.out.same hsX
                have h6 := E.b6.cell
                have h8 := E.b8.cell
                have h15j := fun o o' => ((E.b15.alloc o).alloc o').cell
                have HK := Lib.hid hK
                have HBX := Lib.hid hBX
                have HCX := Lib.hid hCa
                have HSX := Lib.hid hsX
                clear hK hBX hCa hsX E hbi
                gi_wp2
                rw [roundsIn_succ]
                gi_wp2
                have hkb2 := (Boxed.new X 3 (.int .i64 1)).alloc (.cells #[.int .i64 0] 3)
                have hib2 := Boxed.new (X.alloc (.cells #[.int .i64 1] 3)) 3 (.int .i64 0)
                have hB2 := (HBX.out.alloc HBX.out.size (.cells #[.int .i64 1] 3)).alloc (by have := HBX.out.size; simp; omega) (.cells #[.int .i64 0] 3)
                have hDl := lt_of_block HK.out
                have hD2 : ((X.alloc (.cells #[.int .i64 1] 3)).alloc (.cells #[.int .i64 0] 3)).heap[Df]? = some (.deferred (some [])) := ((Below.heap_alloc _ _ _ (by simp; omega)).trans (Below.heap_alloc _ _ _ hDl)).trans HK.out
                have hz2 : ((X.alloc (.cells #[.int .i64 1] 3)).alloc (.cells #[.int .i64 0] 3)).heap.size = X.heap.size + 2 := by simp
                have hXX := HCX.out.1
                have hsm2 : ∀ j, j < Wq.heap.size → ((X.alloc (.cells #[.int .i64 1] 3)).alloc (.cells #[.int .i64 0] 3)).heap[j]? = Wq.heap[j]? := fun j hj => (Below.heap_alloc _ _ _ (by simp; omega)).trans ((Below.heap_alloc _ _ _ (by omega)).trans (HSX.out j hj))
                simp only [World.size_alloc] at hib2
                generalize ((X.alloc (.cells #[.int .i64 1] 3)).alloc (.cells #[.int .i64 0] 3)) = W2 at hkb2 hib2 hB2 hD2 hz2 hsm2 ⊢
                have HD2 := Lib.hid hD2
                clear hD2 h6 h8 h15j h16 h17
                rename_i K7 a7
                refine wpIn_rangeFunc_ownH (α := Fin N) rfl (by omega) (gf := 47) (lb := #[.pointer (some ⟨q, 0, none⟩)]) rfl trivial (enters_of Try.func47 (by kernel_rfl) rfl)
                  (HST.out 9 W2 (by omega) (by omega) hsm2) (fun h k => fun j hj => (k j hj).trans (h j hj)) (fun W l o o' hl h1 h2 h3 => fun j hj => World.putObj_heap_other (by omega)) (Below.refl _ _) (fun _ => rfl)
                  (fun pre Zb => pre <+: List.finRange N ∧ Boxed Zb (X.heap.size + 1) 3 (.int .i64 (pre.length : Nat)) ∧ Carry W2 (X.heap.size + 1) Zb ∧ Below w.heap.size w Zb)
                  (fun c pre Zb => (c = .ret ∧ ¬ pre <+: List.finRange N))
                  (OwnFrom.and (ownFrom_pure _ _) ((OwnFrom.and (Own.from (boxed_own _ _ _) _) (OwnFrom.and (carry_own _ _) (ownFrom_below (Nat.le_refl _) (by omega))))))
                  (fun c => ?ownA)
                  ⟨List.nil_prefix, hib2, Carry.refl _ _, hB2⟩
                  (axOf ?frA) (axOf_own _) ?assignA ?bodyA ?doneA ?stopA
                case ownA =>
                  exact OwnFrom.and (ownFrom_pure _ (fun _ => c = .ret)) (ownFrom_pure _ (fun (pre : List (Fin N)) => ¬ pre <+: List.finRange N))
                case assignA =>
                  intro l pre x V K hI hK
                  unfold encF encP
                  gi_wp2
                  refine hK _ _ (KeepsFrom.refl _ _) (fun j hj => rfl) hI ?_
                  refine axOf_intro ?_
                  exact Eq.refl _
                case bodyA =>
                  rintro l pre x a' V hl ⟨r0, hr0⟩ ⟨hpre, hbi, hCa, hBX⟩ rfl hlt
                  have hXs : X.heap.size + 2 ≤ V.heap.size := by have := hCa.1; omega
                  have hsX : ∀ j, j < Wq.heap.size → V.heap[j]? = Wq.heap[j]? := fun j hj => (hCa.2 j (by omega) (by omega)).trans (hsm2 j hj)
                  have E := HE.out.same hsX
                  have h6 := E.b6.cell
                  have h8 := E.b8.cell
                  have h9 := E.b9.cell
                  have h10 := E.b10.cell
                  have f10 := frozen_of_row _ _ 0 _ _ E.b10
                  have h13 := E.b13.cell
                  have h15 := E.b15.cell
                  have h15j := fun o => (E.b15.alloc o).cell
                  have h16 := (hCa.box hkb2 (by omega)).cell
                  have h17 := hbi.cell
                  have f17 := frozen_of_row _ _ 0 _ _ hbi
                  obtain ⟨i, hi⟩ := x
                  by_cases hx : i = pre.length
                  · have hsn : pre ++ [⟨i, hi⟩] <+: List.finRange N := (prefix_snoc hpre (by rw [List.length_finRange]; exact hlt) _).2 (by simp [hx])
                    have hlen : (((pre ++ [(⟨i, hi⟩ : Fin N)]).length : Nat) : Int) = (pre.length : Int) + 1 := by simp
                    rw [← hx] at h17 hlen
                    obtain ⟨gl, go, hea, hc⟩ := E.sl.cell i hi
                    rw [HZL.out i hi] at hc
                    have e1 : decide ((N : Int) ≤ (i : Int)) = false := decide_eq_false (by omega)
                    have hil : i < N := hi
                    have hfin : ∀ Z : World, Boxed Z (X.heap.size + 1) 3 (.int .i64 (i : Nat)) → Carry W2 (X.heap.size + 1) Z → Below w.heap.size w Z → KeepsFrom W2.heap.size V Z → SmQ Wq V Z →
                        KeepsFrom W2.heap.size V (Z.setCell ⟨(X.heap.size + 1), 0, none⟩ (.int .i64 ((i : Int) + 1))) ∧ SmQ Wq V (Z.setCell ⟨(X.heap.size + 1), 0, none⟩ (.int .i64 ((i : Int) + 1))) ∧
                        Boxed (Z.setCell ⟨(X.heap.size + 1), 0, none⟩ (.int .i64 ((i : Int) + 1))) (X.heap.size + 1) 3 (.int .i64 ((pre ++ [(⟨i, hi⟩ : Fin N)]).length : Nat)) ∧ Carry W2 (X.heap.size + 1) (Z.setCell ⟨(X.heap.size + 1), 0, none⟩ (.int .i64 ((i : Int) + 1))) ∧ Below w.heap.size w (Z.setCell ⟨(X.heap.size + 1), 0, none⟩ (.int .i64 ((i : Int) + 1))) := by
                      intro Z hZ hc hb hk hp
                      rw [hlen]
                      exact ⟨hk.trans ((KeepsOthers.setCell _ _ _).from _), (fun j hj => (heap_setCell_other _ _ _ _ (by show j ≠ (X.heap.size + 1); omega)).trans (hp j hj)), hZ.set _, ⟨by have := hc.1; simpa using this, fun j hj hB => (heap_setCell_other _ _ _ _ (by simpa using hB)).trans (hc.2 j hj hB)⟩, hb.setCell (p := ⟨(X.heap.size + 1), 0, none⟩) (by show w.heap.size ≤ (X.heap.size + 1); omega) _⟩
                    have hl0 : ∀ o, (V.alloc o).heap[l]? = some (.loop r0) := fun o => (Below.heap_alloc _ _ _ (Array.getElem?_eq_some_iff.1 hr0).1).trans hr0
                    have HL0 := Lib.hid hl0
                    have HFIN := Lib.hid hfin
                    have HLEN := Lib.hid hlen
                    have HSN := Lib.hid hsn
                    rw [← hx] at hbi
                    have HBI := Lib.hid hbi
                    have HCA := Lib.hid hCa
                    have HBX := Lib.hid hBX
                    have HEX := Lib.hid E
                    have HX := Lib.hid hx
                    have HSX := Lib.hid hsX
                    have HNS := trivial
                    clear hfin hlen hl0 hr0 hbi hsn hCa hBX E hx hsX
                    by_cases hin : (i : Int) = inn
                    · rw [← hin] at h9
                      have HIN := Lib.hid hin
                      clear hin
                      gi_wp2
                      have hjb := Boxed.new V 3 (.int .i64 0)
                      have hkX : KeepsFrom W2.heap.size V (V.alloc (.cells #[.int .i64 0] 3)) := (KeepsOthers.alloc _ _).from _
                      have hBY := HBX.out.alloc (by omega) (.cells #[.int .i64 0] 3)
                      have hiY := HBI.out.alloc (.cells #[.int .i64 0] 3)
                      have hcY := HCA.out.new (.cells #[.int .i64 0] 3)
                      have hl0 := HL0.out (.cells #[.int .i64 0] 3)
                      have hzY : (V.alloc (.cells #[.int .i64 0] 3)).heap.size = V.heap.size + 1 := by simp
                      have hsXY : ∀ j, j < Wq.heap.size → (V.alloc (.cells #[.int .i64 0] 3)).heap[j]? = V.heap[j]? := fun j hj => Below.heap_alloc _ _ _ (by omega)
                      generalize V.alloc (.cells #[.int .i64 0] 3) = U at hjb hkX hBY hiY hcY hl0 hzY hsXY ⊢
                      have hsY : ∀ j, j < Wq.heap.size → U.heap[j]? = Wq.heap[j]? := fun j hj => (hsXY j hj).trans (HSX.out j hj)
                      have HSY := Lib.hid hsY
                      have HSXY := Lib.hid hsXY
                      clear hea hc h6 h8 h9 h10 h13 h15 h16 h17 f10 f17 h15j hsXY hsY
                      refine wpIn_rangeFunc_ownN (α := Fin N) (l₀ := l) (r₀ := r0) rfl hl0 (by omega) (gf := 47) (lb := #[.pointer (some ⟨q, 0, none⟩)]) rfl trivial (enters_of Try.func47 (by kernel_rfl) rfl)
                        (SeqStopsK.inRound l (HST.out 7 U (by omega) (by omega) HSY.out)) (fun h k => fun j hj => (k j hj).trans (h j hj)) (fun W l o o' hl h1 h2 h3 => fun j hj => World.putObj_heap_other (by omega)) (Below.refl _ _) (fun _ => rfl)
                        (fun pr Z => pr.length ≤ N ∧ Boxed Z V.heap.size 3 (.int .i64 (sumF pr : Nat)) ∧ Carry U V.heap.size Z ∧ KeepsFrom W2.heap.size V Z ∧ Below w.heap.size w Z)
                        (fun c pr Z => False)
                        (OwnFrom.and (ownFrom_pure _ (fun (pr : List (Fin N)) => pr.length ≤ N)) (OwnFrom.and (Own.from (boxed_own _ _ _) _) (OwnFrom.and (carry_own _ _) (OwnFrom.and (ownFrom_keepsFrom (by omega)) (ownFrom_below (Nat.le_refl _) (by omega))))))
                        (fun c => ownFrom_pure _ (fun _ => False))
                        ⟨by simp, hjb, Carry.refl _ _, hkX, hBY⟩
                        (axOf ?fr2A) (axOf_own _) ?assign2A ?body2A ?done2A ?stop2A
                      case assign2A =>
                        intro l2 pr z Z K hI hK
                        unfold encF encP
                        gi_wp2
                        refine hK _ _ (KeepsFrom.refl _ _) (fun j hj => rfl) hI ?_
                        refine axOf_intro ?_
                        exact Eq.refl _
                      case stop2A =>
                        rintro c pr Z hSp hf
                        exact hf.elim
                      case body2A =>
                        rintro l2 pr z a' Z hl2 _ ⟨hpr, hji, hCZ, hkZ, hBZ⟩ rfl hlt2
                        have hsZ : ∀ j, j < Wq.heap.size → Z.heap[j]? = Wq.heap[j]? := fun j hj => (hCZ.2 j (by omega) (by omega)).trans (HSY.out j hj)
                        have EZ := HE.out.same hsZ
                        have h10 := EZ.b10.cell
                        have h13 := EZ.b13.cell
                        have h20 := hji.cell
                        have f20 := frozen_of_row _ _ 0 _ _ hji
                        obtain ⟨jz, hjz⟩ := z
                        obtain ⟨gz, goz, hez, hcz⟩ := EZ.sl.cell jz hjz
                        rw [HZL.out jz hjz] at hcz
                        have hjl : jz < N := hjz
                        have hsb := sumF_le pr
                        have hsq : pr.length * N ≤ 2147483647 * 2147483647 := Nat.mul_le_mul (by omega) (by omega)
                        have hsn2 := sumF_snoc pr ⟨jz, hjz⟩
                        have hpl : (pr ++ [(⟨jz, hjz⟩ : Fin N)]).length ≤ N := by simp; omega
                        generalize hS : sumF pr = S at *
                        have hS1 : S ≤ 4611686014132420609 := by omega
                        have hfin2 : KeepsFrom U.heap.size Z (Z.setCell ⟨V.heap.size, 0, none⟩ (.int .i64 ((S : Int) + (jz : Int)))) ∧ SmQ Wq Z (Z.setCell ⟨V.heap.size, 0, none⟩ (.int .i64 ((S : Int) + (jz : Int)))) ∧ (pr ++ [(⟨jz, hjz⟩ : Fin N)]).length ≤ N ∧
                            Boxed (Z.setCell ⟨V.heap.size, 0, none⟩ (.int .i64 ((S : Int) + (jz : Int)))) V.heap.size 3 (.int .i64 (sumF (pr ++ [(⟨jz, hjz⟩ : Fin N)]) : Nat)) ∧ Carry U V.heap.size (Z.setCell ⟨V.heap.size, 0, none⟩ (.int .i64 ((S : Int) + (jz : Int)))) ∧
                            KeepsFrom W2.heap.size V (Z.setCell ⟨V.heap.size, 0, none⟩ (.int .i64 ((S : Int) + (jz : Int)))) ∧ Below w.heap.size w (Z.setCell ⟨V.heap.size, 0, none⟩ (.int .i64 ((S : Int) + (jz : Int)))) := by
                          rw [hsn2, Int.natCast_add]
                          exact ⟨(KeepsOthers.setCell _ _ _).from _, (fun j hj => heap_setCell_other _ _ _ _ (by show j ≠ V.heap.size; omega)), hpl, hji.set _, hCZ.set _, hkZ.trans ((KeepsOthers.setCell _ _ _).from _), hBZ.setCell (p := ⟨V.heap.size, 0, none⟩) (by show w.heap.size ≤ V.heap.size; omega) _⟩
                        have HF2 := Lib.hid hfin2
                        clear hji hCZ hBZ hkZ EZ hfin2 hsn2 hpl hsb hsq hS hsZ hpr
                        gi_wp2
                        exact HF2.out
                      case done2A =>
                        rintro ys Z rfl ⟨hpr, hji, hCZ, hkZ, hBZ⟩
                        have hsZY : ∀ j, j < Wq.heap.size → Z.heap[j]? = U.heap[j]? := fun j hj => hCZ.2 j (by omega) (by omega)
                        have hsZ : ∀ j, j < Wq.heap.size → Z.heap[j]? = Wq.heap[j]? := fun j hj => (hsZY j hj).trans (HSY.out j hj)
                        have EZ := HE.out.same hsZ
                        have hcZ := hcY.then hCZ (by omega)
                        have hiZ := hCZ.box hiY (by omega)
                        obtain ⟨k1, k2, k3, k4, k5⟩ := HFIN.out Z hiZ hcZ hBZ hkZ (fun j hj => (hsZY j hj).trans (HSXY.out j hj))
                        have h6 := EZ.b6.cell
                        have h8 := EZ.b8.cell
                        have h10 := EZ.b10.cell
                        have h16 := (hcZ.box hkb2 (by omega)).cell
                        have h17 := hiZ.cell
                        have h20 := hji.cell
                        have f17 := frozen_of_row _ _ 0 _ _ hiZ
                        rw [sumF_all] at h20
                        obtain ⟨P, hP⟩ : ∃ P, P = N * (N - 1) := ⟨_, rfl⟩
                        have hP1 : P ≤ 2147483647 * 2147483647 := by rw [hP]; exact Nat.mul_le_mul (by omega) (by omega)
                        have hPN : (N : Int) * ((N : Int) - 1) = (P : Int) := by rw [hP, Int.natCast_mul, Int.natCast_sub (by omega)]; rfl
                        rw [← hP] at h20
                        obtain ⟨T, hT⟩ : ∃ T, T = P / 2 := ⟨_, rfl⟩
                        have hPT : (P : Int) / 2 = (T : Int) := by omega
                        rw [← hT] at h20
                        have K1' := Lib.hid k1
                        have K2' := Lib.hid k2
                        have K3' := Lib.hid k3
                        have K4' := Lib.hid k4
                        have K5' := Lib.hid k5
                        clear k1 k2 k3 k4 k5 hpr hji hCZ hkZ hBZ EZ hcZ hiZ hiY hcY hjb hkX hBY hP hT hsZY hsZ
                        by_cases hstp : (i : Int) = st
                        · rw [← hstp] at h8
                          have HSP := Lib.hid hstp
                          clear hstp
                          gi_wp2
                          exact ⟨K1'.out, K2'.out, HSN.out, K3'.out, K4'.out, K5'.out⟩
                        · have est : ((i : Int) == st) = false := by simp [hstp]
                          clear hstp
                          gi_wp2
                          exact ⟨K1'.out, K2'.out, HSN.out, K3'.out, K4'.out, K5'.out⟩
                    · have ein : ((i : Int) == inn) = false := by simp [hin]
                      obtain ⟨k1, k2, k3, k4, k5⟩ := HFIN.out V HBI.out HCA.out HBX.out (KeepsFrom.refl _ _) (fun j hj => rfl)
                      have K1' := Lib.hid k1
                      have K2' := Lib.hid k2
                      have K3' := Lib.hid k3
                      have K4' := Lib.hid k4
                      have K5' := Lib.hid k5
                      clear k1 k2 k3 k4 k5 hin
                      by_cases hstp : (i : Int) = st
                      · rw [← hstp] at h8
                        have HSP := Lib.hid hstp
                        clear hstp
                        gi_wp2
                        exact ⟨K1'.out, K2'.out, HSN.out, K3'.out, K4'.out, K5'.out⟩
                      · have est : ((i : Int) == st) = false := by simp [hstp]
                        clear hstp
                        gi_wp2
                        exact ⟨K1'.out, K2'.out, HSN.out, K3'.out, K4'.out, K5'.out⟩
                  · have hbadp : ¬ pre ++ [⟨i, hi⟩] <+: List.finRange N := fun h => by
                      have := (prefix_snoc hpre (by rw [List.length_finRange]; exact hlt) _).1 h
                      simp at this
                      exact hx this
                    have e1 : ((i : Int) != (pre.length : Int)) = true := by simp; omega
                    have HBP := Lib.hid hbadp
                    clear hbadp hx
                    gi_wp2
                    have hbadp := HBP.out
                    exact ⟨(KeepsOthers.setCell _ _ _).from _, ⟨rfl, hbadp⟩⟩
                case doneA =>
                  rintro D2 ys V hD2 rfl ⟨hpre, hbi, hCa, hBV⟩ hK2
                  rw [List.length_finRange] at hbi
                  have hsV : ∀ j, j < Wq.heap.size → V.heap[j]? = Wq.heap[j]? := fun j hj => (hCa.2 j (by omega) (by omega)).trans (hsm2 j hj)
                  have E := HE.out.same hsV
                  refine a7 _ _ ?_
                  have h6 := E.b6.cell
                  have h8 := E.b8.cell
                  have h10 := E.b10.cell
                  have h16 := (hCa.box hkb2 (by omega)).cell
                  have h17 := hbi.cell
                  have h10j := fun o => (E.b10.alloc o).cell
                  have f10j := fun o => frozen_of_row _ _ 0 _ _ (E.b10.alloc o)
                  have HDD := Lib.hid (Carry.box' hCa HD2.out rfl hib2)
                  have HK2 := Lib.hid hK2
                  have HBV := Lib.hid hBV
                  have HB10 := Lib.hid E.b10
                  have hDV : Df ≠ D2 := by omega
                  clear hpre hbi hCa hK2 hBV E hsV
                  gi_wp2
                  rw [roundsIn_succ]
                  gi_wp2
                  have hVa := HB10.out.alloc (.cells #[.int .i64 2] 3)
                  have hlD2 := lt_of_block HK2.out
                  have hlD := lt_of_block HDD.out
                  have hk2 : ((V.alloc (.cells #[.int .i64 2] 3)).setCell ⟨w.heap.size + 3, 0, none⟩ (.bool true)).heap[D2]? = some (.deferred (some [])) := (Below.heap_setCell _ _ _ _ (by show D2 ≠ w.heap.size + 3; omega)).trans ((Below.heap_alloc _ _ _ hlD2).trans HK2.out)
                  have hk1 : ((V.alloc (.cells #[.int .i64 2] 3)).setCell ⟨w.heap.size + 3, 0, none⟩ (.bool true)).heap[Df]? = some (.deferred (some [])) := (Below.heap_setCell _ _ _ _ (by show Df ≠ w.heap.size + 3; omega)).trans ((Below.heap_alloc _ _ _ hlD).trans HDD.out)
                  have hset := hVa.set (.bool true)
                  have hBZ := (HBV.out.alloc HBV.out.size (.cells #[.int .i64 2] 3)).setCell (p := ⟨w.heap.size + 3, 0, none⟩) (by show w.heap.size ≤ w.heap.size + 3; omega) (.bool true)
                  generalize (V.alloc (.cells #[.int .i64 2] 3)).setCell ⟨w.heap.size + 3, 0, none⟩ (.bool true) = Z at hk2 hk1 hset hBZ ⊢
                  have hbz : Boxed ((Z.putObj D2 (.deferred none)).putObj Df (.deferred none)) (w.heap.size + 3) 4 (.bool true) := (World.putObj_heap_other (by omega)).trans ((World.putObj_heap_other (by omega)).trans hset)
                  show LeavesInM Fence.wide 10 _ _ _ _ _ .returning _
                  refine leaves2c (v := .bool true) (a := { tmps := _, defers := [{ target := .collected D2, args := #[] }, { target := .collected Df, args := #[] }] }) rfl hDV hk1 hk2 (HRET.out _ _ hbz rfl) ⟨rfl, ?_⟩
                  have hgr := (hBZ.grown (grownBy_putObj' _ D2 (.deferred none)) hBZ.size (fun k e => by cases e; omega))
                  exact hgr.grown (grownBy_putObj' _ Df (.deferred none)) hgr.size (fun k e => by cases e; omega)
                case stopA =>
                  rintro D2 c pre V hD2 hSp ⟨_, hn⟩ hK2
                  exact absurd hSp hn
              · have es1 : decide (0 ≤ st) = false := decide_eq_false hs0
                clear hns hpre
                have h16 := (hCa.box hkb (by omega)).cell
                have h17 := hbi.cell
                have hsX : ∀ j, j < Wq.heap.size → X.heap[j]? = Wq.heap[j]? := fun j hj => (hCa.2 j (by omega) (by omega)).trans (hsm1 j hj)
                have E := HE.out.same hsX
                have h6 := E.b6.cell
                have h8 := E.b8.cell
                have h15j := fun o o' => ((E.b15.alloc o).alloc o').cell
                have HK := Lib.hid hK
                have HBX := Lib.hid hBX
                have HCX := Lib.hid hCa
                have HSX := Lib.hid hsX
                clear hK hBX hCa hsX E hbi
                gi_wp2
                rw [roundsIn_succ]
                gi_wp2
                have hkb2 := (Boxed.new X 3 (.int .i64 1)).alloc (.cells #[.int .i64 0] 3)
                have hib2 := Boxed.new (X.alloc (.cells #[.int .i64 1] 3)) 3 (.int .i64 0)
                have hB2 := (HBX.out.alloc HBX.out.size (.cells #[.int .i64 1] 3)).alloc (by have := HBX.out.size; simp; omega) (.cells #[.int .i64 0] 3)
                have hDl := lt_of_block HK.out
                have hD2 : ((X.alloc (.cells #[.int .i64 1] 3)).alloc (.cells #[.int .i64 0] 3)).heap[Df]? = some (.deferred (some [])) := ((Below.heap_alloc _ _ _ (by simp; omega)).trans (Below.heap_alloc _ _ _ hDl)).trans HK.out
                have hz2 : ((X.alloc (.cells #[.int .i64 1] 3)).alloc (.cells #[.int .i64 0] 3)).heap.size = X.heap.size + 2 := by simp
                have hXX := HCX.out.1
                have hsm2 : ∀ j, j < Wq.heap.size → ((X.alloc (.cells #[.int .i64 1] 3)).alloc (.cells #[.int .i64 0] 3)).heap[j]? = Wq.heap[j]? := fun j hj => (Below.heap_alloc _ _ _ (by simp; omega)).trans ((Below.heap_alloc _ _ _ (by omega)).trans (HSX.out j hj))
                simp only [World.size_alloc] at hib2
                generalize ((X.alloc (.cells #[.int .i64 1] 3)).alloc (.cells #[.int .i64 0] 3)) = W2 at hkb2 hib2 hB2 hD2 hz2 hsm2 ⊢
                have HD2 := Lib.hid hD2
                clear hD2 h6 h8 h15j h16 h17
                rename_i K7 a7
                refine wpIn_rangeFunc_ownH (α := Fin N) rfl (by omega) (gf := 47) (lb := #[.pointer (some ⟨q, 0, none⟩)]) rfl trivial (enters_of Try.func47 (by kernel_rfl) rfl)
                  (HST.out 9 W2 (by omega) (by omega) hsm2) (fun h k => fun j hj => (k j hj).trans (h j hj)) (fun W l o o' hl h1 h2 h3 => fun j hj => World.putObj_heap_other (by omega)) (Below.refl _ _) (fun _ => rfl)
                  (fun pre Zb => pre <+: List.finRange N ∧ Boxed Zb (X.heap.size + 1) 3 (.int .i64 (pre.length : Nat)) ∧ Carry W2 (X.heap.size + 1) Zb ∧ Below w.heap.size w Zb)
                  (fun c pre Zb => (c = .ret ∧ ¬ pre <+: List.finRange N))
                  (OwnFrom.and (ownFrom_pure _ _) ((OwnFrom.and (Own.from (boxed_own _ _ _) _) (OwnFrom.and (carry_own _ _) (ownFrom_below (Nat.le_refl _) (by omega))))))
                  (fun c => ?ownB)
                  ⟨List.nil_prefix, hib2, Carry.refl _ _, hB2⟩
                  (axOf ?frB) (axOf_own _) ?assignB ?bodyB ?doneB ?stopB
                case ownB =>
                  exact OwnFrom.and (ownFrom_pure _ (fun _ => c = .ret)) (ownFrom_pure _ (fun (pre : List (Fin N)) => ¬ pre <+: List.finRange N))
                case assignB =>
                  intro l pre x V K hI hK
                  unfold encF encP
                  gi_wp2
                  refine hK _ _ (KeepsFrom.refl _ _) (fun j hj => rfl) hI ?_
                  refine axOf_intro ?_
                  exact Eq.refl _
                case bodyB =>
                  rintro l pre x a' V hl ⟨r0, hr0⟩ ⟨hpre, hbi, hCa, hBX⟩ rfl hlt
                  have hXs : X.heap.size + 2 ≤ V.heap.size := by have := hCa.1; omega
                  have hsX : ∀ j, j < Wq.heap.size → V.heap[j]? = Wq.heap[j]? := fun j hj => (hCa.2 j (by omega) (by omega)).trans (hsm2 j hj)
                  have E := HE.out.same hsX
                  have h6 := E.b6.cell
                  have h8 := E.b8.cell
                  have h9 := E.b9.cell
                  have h10 := E.b10.cell
                  have f10 := frozen_of_row _ _ 0 _ _ E.b10
                  have h13 := E.b13.cell
                  have h15 := E.b15.cell
                  have h15j := fun o => (E.b15.alloc o).cell
                  have h16 := (hCa.box hkb2 (by omega)).cell
                  have h17 := hbi.cell
                  have f17 := frozen_of_row _ _ 0 _ _ hbi
                  obtain ⟨i, hi⟩ := x
                  by_cases hx : i = pre.length
                  · have hsn : pre ++ [⟨i, hi⟩] <+: List.finRange N := (prefix_snoc hpre (by rw [List.length_finRange]; exact hlt) _).2 (by simp [hx])
                    have hlen : (((pre ++ [(⟨i, hi⟩ : Fin N)]).length : Nat) : Int) = (pre.length : Int) + 1 := by simp
                    rw [← hx] at h17 hlen
                    obtain ⟨gl, go, hea, hc⟩ := E.sl.cell i hi
                    rw [HZL.out i hi] at hc
                    have e1 : decide ((N : Int) ≤ (i : Int)) = false := decide_eq_false (by omega)
                    have hil : i < N := hi
                    have hfin : ∀ Z : World, Boxed Z (X.heap.size + 1) 3 (.int .i64 (i : Nat)) → Carry W2 (X.heap.size + 1) Z → Below w.heap.size w Z → KeepsFrom W2.heap.size V Z → SmQ Wq V Z →
                        KeepsFrom W2.heap.size V (Z.setCell ⟨(X.heap.size + 1), 0, none⟩ (.int .i64 ((i : Int) + 1))) ∧ SmQ Wq V (Z.setCell ⟨(X.heap.size + 1), 0, none⟩ (.int .i64 ((i : Int) + 1))) ∧
                        Boxed (Z.setCell ⟨(X.heap.size + 1), 0, none⟩ (.int .i64 ((i : Int) + 1))) (X.heap.size + 1) 3 (.int .i64 ((pre ++ [(⟨i, hi⟩ : Fin N)]).length : Nat)) ∧ Carry W2 (X.heap.size + 1) (Z.setCell ⟨(X.heap.size + 1), 0, none⟩ (.int .i64 ((i : Int) + 1))) ∧ Below w.heap.size w (Z.setCell ⟨(X.heap.size + 1), 0, none⟩ (.int .i64 ((i : Int) + 1))) := by
                      intro Z hZ hc hb hk hp
                      rw [hlen]
                      exact ⟨hk.trans ((KeepsOthers.setCell _ _ _).from _), (fun j hj => (heap_setCell_other _ _ _ _ (by show j ≠ (X.heap.size + 1); omega)).trans (hp j hj)), hZ.set _, ⟨by have := hc.1; simpa using this, fun j hj hB => (heap_setCell_other _ _ _ _ (by simpa using hB)).trans (hc.2 j hj hB)⟩, hb.setCell (p := ⟨(X.heap.size + 1), 0, none⟩) (by show w.heap.size ≤ (X.heap.size + 1); omega) _⟩
                    have hl0 : ∀ o, (V.alloc o).heap[l]? = some (.loop r0) := fun o => (Below.heap_alloc _ _ _ (Array.getElem?_eq_some_iff.1 hr0).1).trans hr0
                    have HL0 := Lib.hid hl0
                    have HFIN := Lib.hid hfin
                    have HLEN := Lib.hid hlen
                    have HSN := Lib.hid hsn
                    rw [← hx] at hbi
                    have HBI := Lib.hid hbi
                    have HCA := Lib.hid hCa
                    have HBX := Lib.hid hBX
                    have HEX := Lib.hid E
                    have HX := Lib.hid hx
                    have HSX := Lib.hid hsX
                    have HNS := trivial
                    clear hfin hlen hl0 hr0 hbi hsn hCa hBX E hx hsX
                    by_cases hin : (i : Int) = inn
                    · rw [← hin] at h9
                      have HIN := Lib.hid hin
                      clear hin
                      gi_wp2
                      have hjb := Boxed.new V 3 (.int .i64 0)
                      have hkX : KeepsFrom W2.heap.size V (V.alloc (.cells #[.int .i64 0] 3)) := (KeepsOthers.alloc _ _).from _
                      have hBY := HBX.out.alloc (by omega) (.cells #[.int .i64 0] 3)
                      have hiY := HBI.out.alloc (.cells #[.int .i64 0] 3)
                      have hcY := HCA.out.new (.cells #[.int .i64 0] 3)
                      have hl0 := HL0.out (.cells #[.int .i64 0] 3)
                      have hzY : (V.alloc (.cells #[.int .i64 0] 3)).heap.size = V.heap.size + 1 := by simp
                      have hsXY : ∀ j, j < Wq.heap.size → (V.alloc (.cells #[.int .i64 0] 3)).heap[j]? = V.heap[j]? := fun j hj => Below.heap_alloc _ _ _ (by omega)
                      generalize V.alloc (.cells #[.int .i64 0] 3) = U at hjb hkX hBY hiY hcY hl0 hzY hsXY ⊢
                      have hsY : ∀ j, j < Wq.heap.size → U.heap[j]? = Wq.heap[j]? := fun j hj => (hsXY j hj).trans (HSX.out j hj)
                      have HSY := Lib.hid hsY
                      have HSXY := Lib.hid hsXY
                      clear hea hc h6 h8 h9 h10 h13 h15 h16 h17 f10 f17 h15j hsXY hsY
                      refine wpIn_rangeFunc_ownN (α := Fin N) (l₀ := l) (r₀ := r0) rfl hl0 (by omega) (gf := 47) (lb := #[.pointer (some ⟨q, 0, none⟩)]) rfl trivial (enters_of Try.func47 (by kernel_rfl) rfl)
                        (SeqStopsK.inRound l (HST.out 7 U (by omega) (by omega) HSY.out)) (fun h k => fun j hj => (k j hj).trans (h j hj)) (fun W l o o' hl h1 h2 h3 => fun j hj => World.putObj_heap_other (by omega)) (Below.refl _ _) (fun _ => rfl)
                        (fun pr Z => pr.length ≤ N ∧ Boxed Z V.heap.size 3 (.int .i64 (sumF pr : Nat)) ∧ Carry U V.heap.size Z ∧ KeepsFrom W2.heap.size V Z ∧ Below w.heap.size w Z)
                        (fun c pr Z => False)
                        (OwnFrom.and (ownFrom_pure _ (fun (pr : List (Fin N)) => pr.length ≤ N)) (OwnFrom.and (Own.from (boxed_own _ _ _) _) (OwnFrom.and (carry_own _ _) (OwnFrom.and (ownFrom_keepsFrom (by omega)) (ownFrom_below (Nat.le_refl _) (by omega))))))
                        (fun c => ownFrom_pure _ (fun _ => False))
                        ⟨by simp, hjb, Carry.refl _ _, hkX, hBY⟩
                        (axOf ?fr2B) (axOf_own _) ?assign2B ?body2B ?done2B ?stop2B
                      case assign2B =>
                        intro l2 pr z Z K hI hK
                        unfold encF encP
                        gi_wp2
                        refine hK _ _ (KeepsFrom.refl _ _) (fun j hj => rfl) hI ?_
                        refine axOf_intro ?_
                        exact Eq.refl _
                      case stop2B =>
                        rintro c pr Z hSp hf
                        exact hf.elim
                      case body2B =>
                        rintro l2 pr z a' Z hl2 _ ⟨hpr, hji, hCZ, hkZ, hBZ⟩ rfl hlt2
                        have hsZ : ∀ j, j < Wq.heap.size → Z.heap[j]? = Wq.heap[j]? := fun j hj => (hCZ.2 j (by omega) (by omega)).trans (HSY.out j hj)
                        have EZ := HE.out.same hsZ
                        have h10 := EZ.b10.cell
                        have h13 := EZ.b13.cell
                        have h20 := hji.cell
                        have f20 := frozen_of_row _ _ 0 _ _ hji
                        obtain ⟨jz, hjz⟩ := z
                        obtain ⟨gz, goz, hez, hcz⟩ := EZ.sl.cell jz hjz
                        rw [HZL.out jz hjz] at hcz
                        have hjl : jz < N := hjz
                        have hsb := sumF_le pr
                        have hsq : pr.length * N ≤ 2147483647 * 2147483647 := Nat.mul_le_mul (by omega) (by omega)
                        have hsn2 := sumF_snoc pr ⟨jz, hjz⟩
                        have hpl : (pr ++ [(⟨jz, hjz⟩ : Fin N)]).length ≤ N := by simp; omega
                        generalize hS : sumF pr = S at *
                        have hS1 : S ≤ 4611686014132420609 := by omega
                        have hfin2 : KeepsFrom U.heap.size Z (Z.setCell ⟨V.heap.size, 0, none⟩ (.int .i64 ((S : Int) + (jz : Int)))) ∧ SmQ Wq Z (Z.setCell ⟨V.heap.size, 0, none⟩ (.int .i64 ((S : Int) + (jz : Int)))) ∧ (pr ++ [(⟨jz, hjz⟩ : Fin N)]).length ≤ N ∧
                            Boxed (Z.setCell ⟨V.heap.size, 0, none⟩ (.int .i64 ((S : Int) + (jz : Int)))) V.heap.size 3 (.int .i64 (sumF (pr ++ [(⟨jz, hjz⟩ : Fin N)]) : Nat)) ∧ Carry U V.heap.size (Z.setCell ⟨V.heap.size, 0, none⟩ (.int .i64 ((S : Int) + (jz : Int)))) ∧
                            KeepsFrom W2.heap.size V (Z.setCell ⟨V.heap.size, 0, none⟩ (.int .i64 ((S : Int) + (jz : Int)))) ∧ Below w.heap.size w (Z.setCell ⟨V.heap.size, 0, none⟩ (.int .i64 ((S : Int) + (jz : Int)))) := by
                          rw [hsn2, Int.natCast_add]
                          exact ⟨(KeepsOthers.setCell _ _ _).from _, (fun j hj => heap_setCell_other _ _ _ _ (by show j ≠ V.heap.size; omega)), hpl, hji.set _, hCZ.set _, hkZ.trans ((KeepsOthers.setCell _ _ _).from _), hBZ.setCell (p := ⟨V.heap.size, 0, none⟩) (by show w.heap.size ≤ V.heap.size; omega) _⟩
                        have HF2 := Lib.hid hfin2
                        clear hji hCZ hBZ hkZ EZ hfin2 hsn2 hpl hsb hsq hS hsZ hpr
                        gi_wp2
                        exact HF2.out
                      case done2B =>
                        rintro ys Z rfl ⟨hpr, hji, hCZ, hkZ, hBZ⟩
                        have hsZY : ∀ j, j < Wq.heap.size → Z.heap[j]? = U.heap[j]? := fun j hj => hCZ.2 j (by omega) (by omega)
                        have hsZ : ∀ j, j < Wq.heap.size → Z.heap[j]? = Wq.heap[j]? := fun j hj => (hsZY j hj).trans (HSY.out j hj)
                        have EZ := HE.out.same hsZ
                        have hcZ := hcY.then hCZ (by omega)
                        have hiZ := hCZ.box hiY (by omega)
                        obtain ⟨k1, k2, k3, k4, k5⟩ := HFIN.out Z hiZ hcZ hBZ hkZ (fun j hj => (hsZY j hj).trans (HSXY.out j hj))
                        have h6 := EZ.b6.cell
                        have h8 := EZ.b8.cell
                        have h10 := EZ.b10.cell
                        have h16 := (hcZ.box hkb2 (by omega)).cell
                        have h17 := hiZ.cell
                        have h20 := hji.cell
                        have f17 := frozen_of_row _ _ 0 _ _ hiZ
                        rw [sumF_all] at h20
                        obtain ⟨P, hP⟩ : ∃ P, P = N * (N - 1) := ⟨_, rfl⟩
                        have hP1 : P ≤ 2147483647 * 2147483647 := by rw [hP]; exact Nat.mul_le_mul (by omega) (by omega)
                        have hPN : (N : Int) * ((N : Int) - 1) = (P : Int) := by rw [hP, Int.natCast_mul, Int.natCast_sub (by omega)]; rfl
                        rw [← hP] at h20
                        obtain ⟨T, hT⟩ : ∃ T, T = P / 2 := ⟨_, rfl⟩
                        have hPT : (P : Int) / 2 = (T : Int) := by omega
                        rw [← hT] at h20
                        have K1' := Lib.hid k1
                        have K2' := Lib.hid k2
                        have K3' := Lib.hid k3
                        have K4' := Lib.hid k4
                        have K5' := Lib.hid k5
                        clear k1 k2 k3 k4 k5 hpr hji hCZ hkZ hBZ EZ hcZ hiZ hiY hcY hjb hkX hBY hP hT hsZY hsZ
                        by_cases hstp : (i : Int) = st
                        · rw [← hstp] at h8
                          have HSP := Lib.hid hstp
                          clear hstp
                          gi_wp2
                          exact ⟨K1'.out, K2'.out, HSN.out, K3'.out, K4'.out, K5'.out⟩
                        · have est : ((i : Int) == st) = false := by simp [hstp]
                          clear hstp
                          gi_wp2
                          exact ⟨K1'.out, K2'.out, HSN.out, K3'.out, K4'.out, K5'.out⟩
                    · have ein : ((i : Int) == inn) = false := by simp [hin]
                      obtain ⟨k1, k2, k3, k4, k5⟩ := HFIN.out V HBI.out HCA.out HBX.out (KeepsFrom.refl _ _) (fun j hj => rfl)
                      have K1' := Lib.hid k1
                      have K2' := Lib.hid k2
                      have K3' := Lib.hid k3
                      have K4' := Lib.hid k4
                      have K5' := Lib.hid k5
                      clear k1 k2 k3 k4 k5 hin
                      by_cases hstp : (i : Int) = st
                      · rw [← hstp] at h8
                        have HSP := Lib.hid hstp
                        clear hstp
                        gi_wp2
                        exact ⟨K1'.out, K2'.out, HSN.out, K3'.out, K4'.out, K5'.out⟩
                      · have est : ((i : Int) == st) = false := by simp [hstp]
                        clear hstp
                        gi_wp2
                        exact ⟨K1'.out, K2'.out, HSN.out, K3'.out, K4'.out, K5'.out⟩
                  · have hbadp : ¬ pre ++ [⟨i, hi⟩] <+: List.finRange N := fun h => by
                      have := (prefix_snoc hpre (by rw [List.length_finRange]; exact hlt) _).1 h
                      simp at this
                      exact hx this
                    have e1 : ((i : Int) != (pre.length : Int)) = true := by simp; omega
                    have HBP := Lib.hid hbadp
                    clear hbadp hx
                    gi_wp2
                    have hbadp := HBP.out
                    exact ⟨(KeepsOthers.setCell _ _ _).from _, ⟨rfl, hbadp⟩⟩
                case doneB =>
                  rintro D2 ys V hD2 rfl ⟨hpre, hbi, hCa, hBV⟩ hK2
                  rw [List.length_finRange] at hbi
                  have hsV : ∀ j, j < Wq.heap.size → V.heap[j]? = Wq.heap[j]? := fun j hj => (hCa.2 j (by omega) (by omega)).trans (hsm2 j hj)
                  have E := HE.out.same hsV
                  refine a7 _ _ ?_
                  have h6 := E.b6.cell
                  have h8 := E.b8.cell
                  have h10 := E.b10.cell
                  have h16 := (hCa.box hkb2 (by omega)).cell
                  have h17 := hbi.cell
                  have h10j := fun o => (E.b10.alloc o).cell
                  have f10j := fun o => frozen_of_row _ _ 0 _ _ (E.b10.alloc o)
                  have HDD := Lib.hid (Carry.box' hCa HD2.out rfl hib2)
                  have HK2 := Lib.hid hK2
                  have HBV := Lib.hid hBV
                  have HB10 := Lib.hid E.b10
                  have hDV : Df ≠ D2 := by omega
                  clear hpre hbi hCa hK2 hBV E hsV
                  gi_wp2
                  rw [roundsIn_succ]
                  gi_wp2
                  have hVa := HB10.out.alloc (.cells #[.int .i64 2] 3)
                  have hlD2 := lt_of_block HK2.out
                  have hlD := lt_of_block HDD.out
                  have hk2 : ((V.alloc (.cells #[.int .i64 2] 3)).setCell ⟨w.heap.size + 3, 0, none⟩ (.bool true)).heap[D2]? = some (.deferred (some [])) := (Below.heap_setCell _ _ _ _ (by show D2 ≠ w.heap.size + 3; omega)).trans ((Below.heap_alloc _ _ _ hlD2).trans HK2.out)
                  have hk1 : ((V.alloc (.cells #[.int .i64 2] 3)).setCell ⟨w.heap.size + 3, 0, none⟩ (.bool true)).heap[Df]? = some (.deferred (some [])) := (Below.heap_setCell _ _ _ _ (by show Df ≠ w.heap.size + 3; omega)).trans ((Below.heap_alloc _ _ _ hlD).trans HDD.out)
                  have hset := hVa.set (.bool true)
                  have hBZ := (HBV.out.alloc HBV.out.size (.cells #[.int .i64 2] 3)).setCell (p := ⟨w.heap.size + 3, 0, none⟩) (by show w.heap.size ≤ w.heap.size + 3; omega) (.bool true)
                  generalize (V.alloc (.cells #[.int .i64 2] 3)).setCell ⟨w.heap.size + 3, 0, none⟩ (.bool true) = Z at hk2 hk1 hset hBZ ⊢
                  have hbz : Boxed ((Z.putObj D2 (.deferred none)).putObj Df (.deferred none)) (w.heap.size + 3) 4 (.bool true) := (World.putObj_heap_other (by omega)).trans ((World.putObj_heap_other (by omega)).trans hset)
                  show LeavesInM Fence.wide 10 _ _ _ _ _ .returning _
                  refine leaves2c (v := .bool true) (a := { tmps := _, defers := [{ target := .collected D2, args := #[] }, { target := .collected Df, args := #[] }] }) rfl hDV hk1 hk2 (HRET.out _ _ hbz rfl) ⟨rfl, ?_⟩
                  have hgr := (hBZ.grown (grownBy_putObj' _ D2 (.deferred none)) hBZ.size (fun k e => by cases e; omega))
                  exact hgr.grown (grownBy_putObj' _ Df (.deferred none)) hgr.size (fun k e => by cases e; omega)
                case stopB =>
                  rintro D2 c pre V hD2 hSp ⟨_, hn⟩ hK2
                  exact absurd hSp hn
            case stop =>
              rintro Df c pre X hD hSp (⟨_, hn⟩ | ⟨rfl, ⟨hst0, hst⟩, hbi, hCa, hBX⟩) hK
              · exact absurd hSp hn
              · rw [hst] at hbi
                have hpl : pre.length ≤ N := by have := hSp.length_le; rwa [List.length_finRange] at this
                have es1 : decide (0 ≤ st) = true := decide_eq_true (by omega)
                have es2 : decide (st < (N : Int)) = true := decide_eq_true (by omega)
                have est0 : 0 ≤ st := by omega
                have est1 : st < N := by omega
                clear hst hpl hSp hst0
                have h16 := (hCa.box hkb (by omega)).cell
                have h17 := hbi.cell
                have hsX : ∀ j, j < Wq.heap.size → X.heap[j]? = Wq.heap[j]? := fun j hj => (hCa.2 j (by omega) (by omega)).trans (hsm1 j hj)
                have E := HE.out.same hsX
                have h6 := E.b6.cell
                have h8 := E.b8.cell
                have h15j := fun o o' => ((E.b15.alloc o).alloc o').cell
                have HK := Lib.hid hK
                have HBX := Lib.hid hBX
                have HCX := Lib.hid hCa
                have HSX := Lib.hid hsX
                clear hK hBX hCa hsX E hbi
                gi_wp2
                rw [roundsIn_succ]
                gi_wp2
                have hkb2 := (Boxed.new X 3 (.int .i64 1)).alloc (.cells #[.int .i64 0] 3)
                have hib2 := Boxed.new (X.alloc (.cells #[.int .i64 1] 3)) 3 (.int .i64 0)
                have hB2 := (HBX.out.alloc HBX.out.size (.cells #[.int .i64 1] 3)).alloc (by have := HBX.out.size; simp; omega) (.cells #[.int .i64 0] 3)
                have hDl := lt_of_block HK.out
                have hD2 : ((X.alloc (.cells #[.int .i64 1] 3)).alloc (.cells #[.int .i64 0] 3)).heap[Df]? = some (.deferred (some [])) := ((Below.heap_alloc _ _ _ (by simp; omega)).trans (Below.heap_alloc _ _ _ hDl)).trans HK.out
                have hz2 : ((X.alloc (.cells #[.int .i64 1] 3)).alloc (.cells #[.int .i64 0] 3)).heap.size = X.heap.size + 2 := by simp
                have hXX := HCX.out.1
                have hsm2 : ∀ j, j < Wq.heap.size → ((X.alloc (.cells #[.int .i64 1] 3)).alloc (.cells #[.int .i64 0] 3)).heap[j]? = Wq.heap[j]? := fun j hj => (Below.heap_alloc _ _ _ (by simp; omega)).trans ((Below.heap_alloc _ _ _ (by omega)).trans (HSX.out j hj))
                simp only [World.size_alloc] at hib2
                generalize ((X.alloc (.cells #[.int .i64 1] 3)).alloc (.cells #[.int .i64 0] 3)) = W2 at hkb2 hib2 hB2 hD2 hz2 hsm2 ⊢
                have HD2 := Lib.hid hD2
                clear hD2 h6 h8 h15j h16 h17
                rename_i K7 a7
                refine wpIn_rangeFunc_ownH (α := Fin N) rfl (by omega) (gf := 47) (lb := #[.pointer (some ⟨q, 0, none⟩)]) rfl trivial (enters_of Try.func47 (by kernel_rfl) rfl)
                  (HST.out 9 W2 (by omega) (by omega) hsm2) (fun h k => fun j hj => (k j hj).trans (h j hj)) (fun W l o o' hl h1 h2 h3 => fun j hj => World.putObj_heap_other (by omega)) (Below.refl _ _) (fun _ => rfl)
                  (fun pre Zb => pre <+: List.finRange N ∧ Boxed Zb (X.heap.size + 1) 3 (.int .i64 (pre.length : Nat)) ∧ Carry W2 (X.heap.size + 1) Zb ∧ Below w.heap.size w Zb)
                  (fun c pre Zb => (c = .ret ∧ ¬ pre <+: List.finRange N))
                  (OwnFrom.and (ownFrom_pure _ _) ((OwnFrom.and (Own.from (boxed_own _ _ _) _) (OwnFrom.and (carry_own _ _) (ownFrom_below (Nat.le_refl _) (by omega))))))
                  (fun c => ?ownC)
                  ⟨List.nil_prefix, hib2, Carry.refl _ _, hB2⟩
                  (axOf ?frC) (axOf_own _) ?assignC ?bodyC ?doneC ?stopC
                case ownC =>
                  exact OwnFrom.and (ownFrom_pure _ (fun _ => c = .ret)) (ownFrom_pure _ (fun (pre : List (Fin N)) => ¬ pre <+: List.finRange N))
                case assignC =>
                  intro l pre x V K hI hK
                  unfold encF encP
                  gi_wp2
                  refine hK _ _ (KeepsFrom.refl _ _) (fun j hj => rfl) hI ?_
                  refine axOf_intro ?_
                  exact Eq.refl _
                case bodyC =>
                  rintro l pre x a' V hl ⟨r0, hr0⟩ ⟨hpre, hbi, hCa, hBX⟩ rfl hlt
                  have hXs : X.heap.size + 2 ≤ V.heap.size := by have := hCa.1; omega
                  have hsX : ∀ j, j < Wq.heap.size → V.heap[j]? = Wq.heap[j]? := fun j hj => (hCa.2 j (by omega) (by omega)).trans (hsm2 j hj)
                  have E := HE.out.same hsX
                  have h6 := E.b6.cell
                  have h8 := E.b8.cell
                  have h9 := E.b9.cell
                  have h10 := E.b10.cell
                  have f10 := frozen_of_row _ _ 0 _ _ E.b10
                  have h13 := E.b13.cell
                  have h15 := E.b15.cell
                  have h15j := fun o => (E.b15.alloc o).cell
                  have h16 := (hCa.box hkb2 (by omega)).cell
                  have h17 := hbi.cell
                  have f17 := frozen_of_row _ _ 0 _ _ hbi
                  obtain ⟨i, hi⟩ := x
                  by_cases hx : i = pre.length
                  · have hsn : pre ++ [⟨i, hi⟩] <+: List.finRange N := (prefix_snoc hpre (by rw [List.length_finRange]; exact hlt) _).2 (by simp [hx])
                    have hlen : (((pre ++ [(⟨i, hi⟩ : Fin N)]).length : Nat) : Int) = (pre.length : Int) + 1 := by simp
                    rw [← hx] at h17 hlen
                    obtain ⟨gl, go, hea, hc⟩ := E.sl.cell i hi
                    rw [HZL.out i hi] at hc
                    have e1 : decide ((N : Int) ≤ (i : Int)) = false := decide_eq_false (by omega)
                    have hil : i < N := hi
                    have hfin : ∀ Z : World, Boxed Z (X.heap.size + 1) 3 (.int .i64 (i : Nat)) → Carry W2 (X.heap.size + 1) Z → Below w.heap.size w Z → KeepsFrom W2.heap.size V Z → SmQ Wq V Z →
                        KeepsFrom W2.heap.size V (Z.setCell ⟨(X.heap.size + 1), 0, none⟩ (.int .i64 ((i : Int) + 1))) ∧ SmQ Wq V (Z.setCell ⟨(X.heap.size + 1), 0, none⟩ (.int .i64 ((i : Int) + 1))) ∧
                        Boxed (Z.setCell ⟨(X.heap.size + 1), 0, none⟩ (.int .i64 ((i : Int) + 1))) (X.heap.size + 1) 3 (.int .i64 ((pre ++ [(⟨i, hi⟩ : Fin N)]).length : Nat)) ∧ Carry W2 (X.heap.size + 1) (Z.setCell ⟨(X.heap.size + 1), 0, none⟩ (.int .i64 ((i : Int) + 1))) ∧ Below w.heap.size w (Z.setCell ⟨(X.heap.size + 1), 0, none⟩ (.int .i64 ((i : Int) + 1))) := by
                      intro Z hZ hc hb hk hp
                      rw [hlen]
                      exact ⟨hk.trans ((KeepsOthers.setCell _ _ _).from _), (fun j hj => (heap_setCell_other _ _ _ _ (by show j ≠ (X.heap.size + 1); omega)).trans (hp j hj)), hZ.set _, ⟨by have := hc.1; simpa using this, fun j hj hB => (heap_setCell_other _ _ _ _ (by simpa using hB)).trans (hc.2 j hj hB)⟩, hb.setCell (p := ⟨(X.heap.size + 1), 0, none⟩) (by show w.heap.size ≤ (X.heap.size + 1); omega) _⟩
                    have hl0 : ∀ o, (V.alloc o).heap[l]? = some (.loop r0) := fun o => (Below.heap_alloc _ _ _ (Array.getElem?_eq_some_iff.1 hr0).1).trans hr0
                    have HL0 := Lib.hid hl0
                    have HFIN := Lib.hid hfin
                    have HLEN := Lib.hid hlen
                    have HSN := Lib.hid hsn
                    rw [← hx] at hbi
                    have HBI := Lib.hid hbi
                    have HCA := Lib.hid hCa
                    have HBX := Lib.hid hBX
                    have HEX := Lib.hid E
                    have HX := Lib.hid hx
                    have HSX := Lib.hid hsX
                    have HNS := trivial
                    clear hfin hlen hl0 hr0 hbi hsn hCa hBX E hx hsX
                    by_cases hin : (i : Int) = inn
                    · rw [← hin] at h9
                      have HIN := Lib.hid hin
                      clear hin
                      gi_wp2
                      have hjb := Boxed.new V 3 (.int .i64 0)
                      have hkX : KeepsFrom W2.heap.size V (V.alloc (.cells #[.int .i64 0] 3)) := (KeepsOthers.alloc _ _).from _
                      have hBY := HBX.out.alloc (by omega) (.cells #[.int .i64 0] 3)
                      have hiY := HBI.out.alloc (.cells #[.int .i64 0] 3)
                      have hcY := HCA.out.new (.cells #[.int .i64 0] 3)
                      have hl0 := HL0.out (.cells #[.int .i64 0] 3)
                      have hzY : (V.alloc (.cells #[.int .i64 0] 3)).heap.size = V.heap.size + 1 := by simp
                      have hsXY : ∀ j, j < Wq.heap.size → (V.alloc (.cells #[.int .i64 0] 3)).heap[j]? = V.heap[j]? := fun j hj => Below.heap_alloc _ _ _ (by omega)
                      generalize V.alloc (.cells #[.int .i64 0] 3) = U at hjb hkX hBY hiY hcY hl0 hzY hsXY ⊢
                      have hsY : ∀ j, j < Wq.heap.size → U.heap[j]? = Wq.heap[j]? := fun j hj => (hsXY j hj).trans (HSX.out j hj)
                      have HSY := Lib.hid hsY
                      have HSXY := Lib.hid hsXY
                      clear hea hc h6 h8 h9 h10 h13 h15 h16 h17 f10 f17 h15j hsXY hsY
                      refine wpIn_rangeFunc_ownN (α := Fin N) (l₀ := l) (r₀ := r0) rfl hl0 (by omega) (gf := 47) (lb := #[.pointer (some ⟨q, 0, none⟩)]) rfl trivial (enters_of Try.func47 (by kernel_rfl) rfl)
                        (SeqStopsK.inRound l (HST.out 7 U (by omega) (by omega) HSY.out)) (fun h k => fun j hj => (k j hj).trans (h j hj)) (fun W l o o' hl h1 h2 h3 => fun j hj => World.putObj_heap_other (by omega)) (Below.refl _ _) (fun _ => rfl)
                        (fun pr Z => pr.length ≤ N ∧ Boxed Z V.heap.size 3 (.int .i64 (sumF pr : Nat)) ∧ Carry U V.heap.size Z ∧ KeepsFrom W2.heap.size V Z ∧ Below w.heap.size w Z)
                        (fun c pr Z => False)
                        (OwnFrom.and (ownFrom_pure _ (fun (pr : List (Fin N)) => pr.length ≤ N)) (OwnFrom.and (Own.from (boxed_own _ _ _) _) (OwnFrom.and (carry_own _ _) (OwnFrom.and (ownFrom_keepsFrom (by omega)) (ownFrom_below (Nat.le_refl _) (by omega))))))
                        (fun c => ownFrom_pure _ (fun _ => False))
                        ⟨by simp, hjb, Carry.refl _ _, hkX, hBY⟩
                        (axOf ?fr2C) (axOf_own _) ?assign2C ?body2C ?done2C ?stop2C
                      case assign2C =>
                        intro l2 pr z Z K hI hK
                        unfold encF encP
                        gi_wp2
                        refine hK _ _ (KeepsFrom.refl _ _) (fun j hj => rfl) hI ?_
                        refine axOf_intro ?_
                        exact Eq.refl _
                      case stop2C =>
                        rintro c pr Z hSp hf
                        exact hf.elim
                      case body2C =>
                        rintro l2 pr z a' Z hl2 _ ⟨hpr, hji, hCZ, hkZ, hBZ⟩ rfl hlt2
                        have hsZ : ∀ j, j < Wq.heap.size → Z.heap[j]? = Wq.heap[j]? := fun j hj => (hCZ.2 j (by omega) (by omega)).trans (HSY.out j hj)
                        have EZ := HE.out.same hsZ
                        have h10 := EZ.b10.cell
                        have h13 := EZ.b13.cell
                        have h20 := hji.cell
                        have f20 := frozen_of_row _ _ 0 _ _ hji
                        obtain ⟨jz, hjz⟩ := z
                        obtain ⟨gz, goz, hez, hcz⟩ := EZ.sl.cell jz hjz
                        rw [HZL.out jz hjz] at hcz
                        have hjl : jz < N := hjz
                        have hsb := sumF_le pr
                        have hsq : pr.length * N ≤ 2147483647 * 2147483647 := Nat.mul_le_mul (by omega) (by omega)
                        have hsn2 := sumF_snoc pr ⟨jz, hjz⟩
                        have hpl : (pr ++ [(⟨jz, hjz⟩ : Fin N)]).length ≤ N := by simp; omega
                        generalize hS : sumF pr = S at *
                        have hS1 : S ≤ 4611686014132420609 := by omega
                        have hfin2 : KeepsFrom U.heap.size Z (Z.setCell ⟨V.heap.size, 0, none⟩ (.int .i64 ((S : Int) + (jz : Int)))) ∧ SmQ Wq Z (Z.setCell ⟨V.heap.size, 0, none⟩ (.int .i64 ((S : Int) + (jz : Int)))) ∧ (pr ++ [(⟨jz, hjz⟩ : Fin N)]).length ≤ N ∧
                            Boxed (Z.setCell ⟨V.heap.size, 0, none⟩ (.int .i64 ((S : Int) + (jz : Int)))) V.heap.size 3 (.int .i64 (sumF (pr ++ [(⟨jz, hjz⟩ : Fin N)]) : Nat)) ∧ Carry U V.heap.size (Z.setCell ⟨V.heap.size, 0, none⟩ (.int .i64 ((S : Int) + (jz : Int)))) ∧
                            KeepsFrom W2.heap.size V (Z.setCell ⟨V.heap.size, 0, none⟩ (.int .i64 ((S : Int) + (jz : Int)))) ∧ Below w.heap.size w (Z.setCell ⟨V.heap.size, 0, none⟩ (.int .i64 ((S : Int) + (jz : Int)))) := by
                          rw [hsn2, Int.natCast_add]
                          exact ⟨(KeepsOthers.setCell _ _ _).from _, (fun j hj => heap_setCell_other _ _ _ _ (by show j ≠ V.heap.size; omega)), hpl, hji.set _, hCZ.set _, hkZ.trans ((KeepsOthers.setCell _ _ _).from _), hBZ.setCell (p := ⟨V.heap.size, 0, none⟩) (by show w.heap.size ≤ V.heap.size; omega) _⟩
                        have HF2 := Lib.hid hfin2
                        clear hji hCZ hBZ hkZ EZ hfin2 hsn2 hpl hsb hsq hS hsZ hpr
                        gi_wp2
                        exact HF2.out
                      case done2C =>
                        rintro ys Z rfl ⟨hpr, hji, hCZ, hkZ, hBZ⟩
                        have hsZY : ∀ j, j < Wq.heap.size → Z.heap[j]? = U.heap[j]? := fun j hj => hCZ.2 j (by omega) (by omega)
                        have hsZ : ∀ j, j < Wq.heap.size → Z.heap[j]? = Wq.heap[j]? := fun j hj => (hsZY j hj).trans (HSY.out j hj)
                        have EZ := HE.out.same hsZ
                        have hcZ := hcY.then hCZ (by omega)
                        have hiZ := hCZ.box hiY (by omega)
                        obtain ⟨k1, k2, k3, k4, k5⟩ := HFIN.out Z hiZ hcZ hBZ hkZ (fun j hj => (hsZY j hj).trans (HSXY.out j hj))
                        have h6 := EZ.b6.cell
                        have h8 := EZ.b8.cell
                        have h10 := EZ.b10.cell
                        have h16 := (hcZ.box hkb2 (by omega)).cell
                        have h17 := hiZ.cell
                        have h20 := hji.cell
                        have f17 := frozen_of_row _ _ 0 _ _ hiZ
                        rw [sumF_all] at h20
                        obtain ⟨P, hP⟩ : ∃ P, P = N * (N - 1) := ⟨_, rfl⟩
                        have hP1 : P ≤ 2147483647 * 2147483647 := by rw [hP]; exact Nat.mul_le_mul (by omega) (by omega)
                        have hPN : (N : Int) * ((N : Int) - 1) = (P : Int) := by rw [hP, Int.natCast_mul, Int.natCast_sub (by omega)]; rfl
                        rw [← hP] at h20
                        obtain ⟨T, hT⟩ : ∃ T, T = P / 2 := ⟨_, rfl⟩
                        have hPT : (P : Int) / 2 = (T : Int) := by omega
                        rw [← hT] at h20
                        have K1' := Lib.hid k1
                        have K2' := Lib.hid k2
                        have K3' := Lib.hid k3
                        have K4' := Lib.hid k4
                        have K5' := Lib.hid k5
                        clear k1 k2 k3 k4 k5 hpr hji hCZ hkZ hBZ EZ hcZ hiZ hiY hcY hjb hkX hBY hP hT hsZY hsZ
                        by_cases hstp : (i : Int) = st
                        · rw [← hstp] at h8
                          have HSP := Lib.hid hstp
                          clear hstp
                          gi_wp2
                          exact ⟨K1'.out, K2'.out, HSN.out, K3'.out, K4'.out, K5'.out⟩
                        · have est : ((i : Int) == st) = false := by simp [hstp]
                          clear hstp
                          gi_wp2
                          exact ⟨K1'.out, K2'.out, HSN.out, K3'.out, K4'.out, K5'.out⟩
                    · have ein : ((i : Int) == inn) = false := by simp [hin]
                      obtain ⟨k1, k2, k3, k4, k5⟩ := HFIN.out V HBI.out HCA.out HBX.out (KeepsFrom.refl _ _) (fun j hj => rfl)
                      have K1' := Lib.hid k1
                      have K2' := Lib.hid k2
                      have K3' := Lib.hid k3
                      have K4' := Lib.hid k4
                      have K5' := Lib.hid k5
                      clear k1 k2 k3 k4 k5 hin
                      by_cases hstp : (i : Int) = st
                      · rw [← hstp] at h8
                        have HSP := Lib.hid hstp
                        clear hstp
                        gi_wp2
                        exact ⟨K1'.out, K2'.out, HSN.out, K3'.out, K4'.out, K5'.out⟩
                      · have est : ((i : Int) == st) = false := by simp [hstp]
                        clear hstp
                        gi_wp2
                        exact ⟨K1'.out, K2'.out, HSN.out, K3'.out, K4'.out, K5'.out⟩
                  · have hbadp : ¬ pre ++ [⟨i, hi⟩] <+: List.finRange N := fun h => by
                      have := (prefix_snoc hpre (by rw [List.length_finRange]; exact hlt) _).1 h
                      simp at this
                      exact hx this
                    have e1 : ((i : Int) != (pre.length : Int)) = true := by simp; omega
                    have HBP := Lib.hid hbadp
                    clear hbadp hx
                    gi_wp2
                    have hbadp := HBP.out
                    exact ⟨(KeepsOthers.setCell _ _ _).from _, ⟨rfl, hbadp⟩⟩
                case doneC =>
                  rintro D2 ys V hD2 rfl ⟨hpre, hbi, hCa, hBV⟩ hK2
                  rw [List.length_finRange] at hbi
                  have hsV : ∀ j, j < Wq.heap.size → V.heap[j]? = Wq.heap[j]? := fun j hj => (hCa.2 j (by omega) (by omega)).trans (hsm2 j hj)
                  have E := HE.out.same hsV
                  refine a7 _ _ ?_
                  have h6 := E.b6.cell
                  have h8 := E.b8.cell
                  have h10 := E.b10.cell
                  have h16 := (hCa.box hkb2 (by omega)).cell
                  have h17 := hbi.cell
                  have h10j := fun o => (E.b10.alloc o).cell
                  have f10j := fun o => frozen_of_row _ _ 0 _ _ (E.b10.alloc o)
                  have HDD := Lib.hid (Carry.box' hCa HD2.out rfl hib2)
                  have HK2 := Lib.hid hK2
                  have HBV := Lib.hid hBV
                  have HB10 := Lib.hid E.b10
                  have hDV : Df ≠ D2 := by omega
                  clear hpre hbi hCa hK2 hBV E hsV
                  gi_wp2
                  rw [roundsIn_succ]
                  gi_wp2
                  have hVa := HB10.out.alloc (.cells #[.int .i64 2] 3)
                  have hlD2 := lt_of_block HK2.out
                  have hlD := lt_of_block HDD.out
                  have hk2 : ((V.alloc (.cells #[.int .i64 2] 3)).setCell ⟨w.heap.size + 3, 0, none⟩ (.bool true)).heap[D2]? = some (.deferred (some [])) := (Below.heap_setCell _ _ _ _ (by show D2 ≠ w.heap.size + 3; omega)).trans ((Below.heap_alloc _ _ _ hlD2).trans HK2.out)
                  have hk1 : ((V.alloc (.cells #[.int .i64 2] 3)).setCell ⟨w.heap.size + 3, 0, none⟩ (.bool true)).heap[Df]? = some (.deferred (some [])) := (Below.heap_setCell _ _ _ _ (by show Df ≠ w.heap.size + 3; omega)).trans ((Below.heap_alloc _ _ _ hlD).trans HDD.out)
                  have hset := hVa.set (.bool true)
                  have hBZ := (HBV.out.alloc HBV.out.size (.cells #[.int .i64 2] 3)).setCell (p := ⟨w.heap.size + 3, 0, none⟩) (by show w.heap.size ≤ w.heap.size + 3; omega) (.bool true)
                  generalize (V.alloc (.cells #[.int .i64 2] 3)).setCell ⟨w.heap.size + 3, 0, none⟩ (.bool true) = Z at hk2 hk1 hset hBZ ⊢
                  have hbz : Boxed ((Z.putObj D2 (.deferred none)).putObj Df (.deferred none)) (w.heap.size + 3) 4 (.bool true) := (World.putObj_heap_other (by omega)).trans ((World.putObj_heap_other (by omega)).trans hset)
                  show LeavesInM Fence.wide 10 _ _ _ _ _ .returning _
                  refine leaves2c (v := .bool true) (a := { tmps := _, defers := [{ target := .collected D2, args := #[] }, { target := .collected Df, args := #[] }] }) rfl hDV hk1 hk2 (HRET.out _ _ hbz rfl) ⟨rfl, ?_⟩
                  have hgr := (hBZ.grown (grownBy_putObj' _ D2 (.deferred none)) hBZ.size (fun k e => by cases e; omega))
                  exact hgr.grown (grownBy_putObj' _ Df (.deferred none)) hgr.size (fun k e => by cases e; omega)
                case stopC =>
                  rintro D2 c pre V hD2 hSp ⟨_, hn⟩ hK2
                  exact absurd hSp hn
theorem bitswalks_go0 (w : World) (a : Option Addr) (nb cb : Nat) (zb : List Int) (hrow : IsRow .u8 w a nb cb zb) (hcb : cb * 1 ≤ 140737488351232) (n : Int) (_ : (Lit.int .i64 n).wf = true) (wd : Int) (_ : (Lit.int .i64 wd).wf = true) (st : Int) (hst : (Lit.int .i64 st).wf = true) (inn : Int) (_ : (Lit.int .i64 inn).wf = true) :
    Calls Try.prog 3 #[.slice a nb cb, .int .i64 n, .int .i64 wd, .int .i64 st, .int .i64 inn] w fun e w' => e = .returned (.bool true) ∧ Below w.heap.size w w' :=
  bitswalks_go w a nb cb zb hrow hcb n wd st inn hst
end Go.Proofs.Ytgkbkkhlnidigaa
