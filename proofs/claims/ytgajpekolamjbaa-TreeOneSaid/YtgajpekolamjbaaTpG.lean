/- TwX TwW TwY TpG, laid as one. -/
import Derived.Test.YtgajpekolamjbaaTwC
import Derived.Test.YtgajpekolamjbaaTrQ
import Derived.BigQuiet
import Derived.Deep.QuietTactic
import Derived.Outline
import Derived.Test.YtgajpekolamjbaaTpW
set_option linter.unusedVariables false
set_option linter.unusedSimpArgs false
/- What walked and matched gather: boxes and rows; sameSeen. -/
namespace Go.Tk
open Go Go.RowKit
theorem ownsRow_slice {w : World} {base e size n : Nat} {v : Value} {xs : List Value} (h : w.ownsRow base e size v n xs) : ∃ a c, v = .slice a n c := by
  rcases h.2 with ⟨rfl, rfl⟩ | ⟨g, cap, cur, rfl, _⟩
  · exact ⟨none, 0, rfl⟩
  · exact ⟨_, cap, rfl⟩
theorem boxed_app {W w1 : World} {n₀ n₁ B : Nat} {t e : TypeId} {size : Nat} {v v' : Value} {k m : Nat} {xs ys : List Value} {tmp : Obj}
    (hv : Boxed W B t v) (hte : t ≠ e) (hrow : W.ownsRow n₀ e size v k xs) (hn : n₁ ≤ n₀) (hnB : n₁ ≤ B) (hnW : n₁ ≤ W.heap.size)
    (hown' : w1.ownsRow n₀ e size v' m ys) (hgrow : (W.alloc tmp).grownBy w1 v.ownBlock) :
    Boxed w1 B t v ∧ Boxed (w1.setCell ⟨B, 0, none⟩ v') B t v' ∧ (w1.setCell ⟨B, 0, none⟩ v').ownsRow n₀ e size v' m ys ∧ KeepsOthers W (w1.setCell ⟨B, 0, none⟩ v') ∧ Below n₁ W (w1.setCell ⟨B, 0, none⟩ v') ∧
      (∀ j t' u, Boxed W j t' u → t' ≠ e → j ≠ B → Boxed (w1.setCell ⟨B, 0, none⟩ v') j t' u) ∧
      (∀ j, j < n₀ → j < W.heap.size → j ≠ B → (w1.setCell ⟨B, 0, none⟩ v').heap[j]? = W.heap[j]?) := by
  have hv1 : Boxed w1 B t v := (hv.alloc tmp).kept hgrow (hv.not_row hte hrow)
  have hlow : ∀ j, v.ownBlock = some j → n₀ ≤ j := fun j ej => by
    rcases hrow.2 with ⟨rfl, _⟩ | ⟨g, cap, cur, rfl, hb, _, _⟩
    · simp [Value.ownBlock] at ej
    · obtain rfl : g = j := by simpa [Value.ownBlock] using ej
      exact hb
  refine ⟨hv1, hv1.set v', hown'.kept (grownBy_setCell' w1 B v') (.inr (hv1.not_row hte hown').symm), ?_, ?_, ?_, ?_⟩
  · refine ((KeepsOthers.alloc W tmp).trans (KeepsOthers.of_grownBy hgrow fun j o ej hj => ?_)).trans (KeepsOthers.setCell _ _ _)
    rcases (hrow.alloc tmp).2 with ⟨rfl, _⟩ | ⟨g, cap, cur, rfl, _, hgb, _⟩
    · simp [Value.ownBlock] at ej
    · obtain rfl : g = j := by simpa [Value.ownBlock] using ej
      rw [hgb] at hj; cases hj; rfl
  · refine (((Below.refl n₁ W).alloc hnW tmp).grown hgrow (by simp; omega) fun j ej => ?_).setCell (p := ⟨B, 0, none⟩) hnB v'
    have := hlow j ej; omega
  · intro j t' u hb hne hj
    exact (((hb.alloc tmp).kept hgrow (hb.not_row hne hrow))).other hj v'
  · intro j hj hjW hjB
    rw [heap_setCell_other _ _ _ _ (by simpa using hjB), hgrow.block j (by simp; omega) (fun e => by have := hlow j e.symm; omega)]
    exact Below.heap_alloc _ _ _ hjW
def Carry (W : World) (B : Nat) (X : World) : Prop := W.heap.size ≤ X.heap.size ∧ ∀ j, j < W.heap.size → j ≠ B → X.heap[j]? = W.heap[j]?
theorem drewN_drewN (X : World) (a b : Nat) : (X.drewN a).drewN b = X.drewN (a + b) := by simp [World.drewN, Nat.add_assoc]
theorem Carry.refl (W : World) (B : Nat) : Carry W B W := ⟨Nat.le_refl _, fun _ _ _ => rfl⟩
theorem Carry.box {W X : World} {B j : Nat} {t : TypeId} {v : Value} (h : Carry W B X) (hb : Boxed W j t v) (hj : j ≠ B) : Boxed X j t v := (h.2 j (lt_of_block hb) hj).trans hb
theorem Carry.row {W X : World} {B n₀ : Nat} {t e : TypeId} {size : Nat} {v u : Value} {k : Nat} {xs : List Value} (h : Carry W B X) (hr : W.ownsRow n₀ e size v k xs) (hB : Boxed W B t u) (hne : t ≠ e) : X.ownsRow n₀ e size v k xs := by
  have hn := hB.not_row hne hr
  rcases hr with ⟨a, ⟨e1, e2⟩ | ⟨g, cap, cur, e1, e2, e3, e4⟩⟩
  · exact ⟨a, .inl ⟨e1, e2⟩⟩
  · refine ⟨a, .inr ⟨g, cap, cur, e1, e2, ?_, e4⟩⟩
    exact (h.2 g (lt_of_block e3) (fun e => hn (by subst e1; simp [Value.ownBlock, e]))).trans e3
theorem row_put {W : World} {n₀ e size : Nat} {v : Value} {k : Nat} {xs : List Value} (h : W.ownsRow n₀ e size v k xs) {D : Nat} {o : Obj} (hD : W.heap[D]? = some o) (ho : o.isCells = false) (o' : Obj) : (W.putObj D o').ownsRow n₀ e size v k xs := by
  rcases h with ⟨a, ⟨e1, e2⟩ | ⟨g, cap, cur, e1, e2, e3, e4⟩⟩
  · exact ⟨a, .inl ⟨e1, e2⟩⟩
  · refine ⟨a, .inr ⟨g, cap, cur, e1, e2, ?_, e4⟩⟩
    refine (World.putObj_heap_other (fun e => ?_)).trans e3
    subst e
    rw [e3] at hD; cases hD; cases ho
def marks (Ds : List Nat) : List Deferred := Ds.map fun D => { target := .collected D, args := #[] }
theorem leavesMarks {F : Fence} {n : Nat} {P : Program} {fn : Func} {tmps : Array Value} {R : Ending → World → Prop} {v : Value} (J : World → Prop) (B : Nat)
    (hJ : ∀ X D, J X → B ≤ D → X.heap[D]? = some (.deferred (some [])) → J (X.putObj D (.deferred none))) (hres : ∀ X, J X → (results fn tmps).run P X = .ok v X) (hR : ∀ X, J X → R (.returned v) X) :
    ∀ (Ds : List Nat) (X : World), Ds.Nodup → (∀ D ∈ Ds, B ≤ D ∧ X.heap[D]? = some (.deferred (some []))) → J X → LeavesInM F n P fn tmps R (marks Ds) .returning X
  | [], X, _, _, h => ⟨_, hres X h, hR X h⟩
  | D :: Ds, X, hn, hd, h => by
    refine ⟨by simp, .inl ⟨D, _, rfl, run_takeDeferred (hd D (by simp)).2, ?_⟩⟩
    have hn' := List.nodup_cons.1 hn
    exact leavesMarks J B hJ hres hR Ds _ hn'.2 (fun D' h' => ⟨(hd D' (by simp [h'])).1, (World.putObj_heap_other (fun e => hn'.1 (by rw [e] at h'; exact h'))).trans (hd D' (by simp [h'])).2⟩) (hJ X D h (hd D (by simp)).1 (hd D (by simp)).2)
theorem box_ab {Q : Obj → Prop} {X Y : World} {B : Nat} {T : TypeId} {v : Value} {row : Option Nat} (h : Boxed X B T v) (hT : ∀ u, ¬ Q (.cells #[u] T (0, 0))) (hg : X.grownBy Y row)
    (hr : ∀ r, row = some r → ∃ o : Obj, X.heap[r]? = some o ∧ (Q o ∨ o.isCells = false)) : Boxed Y B T v := by
  refine (hg.block B (lt_of_block h) (fun e => ?_)).trans h
  obtain ⟨o, ho, hq⟩ := hr B e.symm
  rw [show X.heap[B]? = _ from h] at ho
  cases ho
  rcases hq with hq | hq
  · exact hT _ hq
  · cases hq
theorem row_ab {Q : Obj → Prop} {X Y : World} {n₀ e size : Nat} {v : Value} {k : Nat} {xs : List Value} {row : Option Nat} (h : X.ownsRow n₀ e size v k xs) (hT : ∀ cs f, ¬ Q (.cells cs e f)) (hg : X.grownBy Y row)
    (hr : ∀ r, row = some r → ∃ o : Obj, X.heap[r]? = some o ∧ (Q o ∨ o.isCells = false)) : Y.ownsRow n₀ e size v k xs := by
  rcases h with ⟨a, ⟨e1, e2⟩ | ⟨g, cap, cur, e1, e2, e3, e4⟩⟩
  · exact ⟨a, .inl ⟨e1, e2⟩⟩
  · refine ⟨a, .inr ⟨g, cap, cur, e1, e2, ?_, e4⟩⟩
    refine (hg.block g (lt_of_block e3) (fun e => ?_)).trans e3
    obtain ⟨o, ho, hq⟩ := hr g e.symm
    rw [e3] at ho
    cases ho
    rcases hq with hq | hq
    · exact hT _ _ hq
    · cases hq
theorem app_keeps {Q : Obj → Prop} {X w1 : World} {n₀ B : Nat} {t e : TypeId} {size : Nat} {v v' : Value} {k : Nat} {xs : List Value} {tmp : Obj} (hv : Boxed X B t v) (hT : ∀ u, ¬ Q (.cells #[u] t (0, 0))) (hE : ∀ cs f, ¬ Q (.cells cs e f))
    (hrow : X.ownsRow n₀ e size v k xs) (hgrow : (X.alloc tmp).grownBy w1 v.ownBlock) (j : Nat) (o : Obj) (ho : X.heap[j]? = some o) (hq : Q o ∨ o.isCells = false) : (w1.setCell ⟨B, 0, none⟩ v').heap[j]? = some o := by
  have hjB : j ≠ B := fun h => by
    subst h
    rw [show X.heap[j]? = _ from hv] at ho
    cases ho
    rcases hq with hq | hq
    · exact hT _ hq
    · cases hq
  have hjr : v.ownBlock ≠ some j := fun h => by
    rcases hrow.2 with ⟨rfl, _⟩ | ⟨g, cap, cur, rfl, hb, hgb, _⟩
    · simp [Value.ownBlock] at h
    · obtain rfl : g = j := by simpa [Value.ownBlock] using h
      rw [hgb] at ho
      cases ho
      rcases hq with hq | hq
      · exact hE _ _ hq
      · cases hq
  have hlt := (Array.getElem?_eq_some_iff.1 ho).1
  rw [heap_setCell_other _ _ _ _ (by simpa using hjB), hgrow.block j (by simp; omega) (fun e => hjr e.symm)]
  exact (Below.heap_alloc _ _ _ hlt).trans ho
theorem Carry.abd {W X Y : World} {B : Nat} {row : Option Nat} (h : Carry W B X) (hg : X.grownBy Y row) (hr : ∀ r, row = some r → W.heap.size ≤ r) : Carry W B Y :=
  ⟨Nat.le_trans h.1 hg.size, fun j hj hB => (hg.block j (by have := h.1; omega) (fun e => by have := hr j e.symm; omega)).trans (h.2 j hj hB)⟩
/-- A quad and its number, as cells. -/
def sqC (x : Nat × (Nat → Nat)) : List Value := [.int .i64 (x.1 : Nat), .int .i64 (x.2 0 : Nat), .int .i64 (x.2 1 : Nat), .int .i64 (x.2 2 : Nat), .int .i64 (x.2 3 : Nat)]
def sqCs (L : List (Nat × (Nat → Nat))) : List Value := L.flatMap sqC
theorem sqCs_snoc (L : List (Nat × (Nat → Nat))) (x : Nat × (Nat → Nat)) : sqCs (L ++ [x]) = sqCs L ++ sqC x := by simp [sqCs]
theorem sqCs_len (L : List (Nat × (Nat → Nat))) : (sqCs L).length = L.length * 5 := by
  induction L with
  | nil => rfl
  | cons x L ih => simp [sqCs, sqC] at ih ⊢; omega
theorem sqCs_at : ∀ (L : List (Nat × (Nat → Nat))) (k : Nat) (h : k < L.length) (j : Nat), j < 5 → (sqCs L)[k * 5 + j]? = (sqC L[k])[j]?
  | [], k, h, _, _ => by simp at h
  | x :: L, 0, _, j, hj => by
    have e : sqCs (x :: L) = sqC x ++ sqCs L := by simp [sqCs]
    rw [e, Nat.zero_mul, Nat.zero_add, List.getElem?_append_left (by simp [sqC]; omega)]
    rfl
  | x :: L, k + 1, h, j, hj => by
    have ih := sqCs_at L k (by simpa using h) j hj
    have e : sqCs (x :: L) = sqC x ++ sqCs L := by simp [sqCs]
    rw [e, List.getElem?_append_right (by simp [sqC]; omega), show (k + 1) * 5 + j - (sqC x).length = k * 5 + j by simp [sqC]; omega, ih]
    rfl
theorem cells_new (W : World) (l : List Value) (e : TypeId) : ∀ j x, l[j]? = some x → (W.alloc (.cells l.toArray e)).cell? ((⟨W.heap.size, 0, none⟩ : Addr).add j) = some x := by
  intro j x hx
  rw [Addr.add_lit, World.cell?_alloc_at _ _ _ _ rfl]
  simpa using hx
end Go.Tk
namespace Go.Proofs.Ytgajpekolamjbaa
open Go.RowKit Go.Shelf Go.Tk
theorem seen_fields : Try.prog.underlying 69 = some (.struct (Try.prog.fieldsOf 69)) := by kernel_rfl
theorem seen_stood : Try.prog.stoodInHeld 69 = false := by kernel_rfl
theorem seen_guard : Try.prog.eqGuardType Try.prog.depth 69 = false := by kernel_rfl
theorem seen_neq (a : Int) (p : Qd) (w : World) : (binOp .neq 69 (.agg #[.int .i64 a, .int .i64 p.a, .int .i64 p.b, .int .i64 p.c, .int .i64 p.d]) (.agg #[.int .i64 a, .int .i64 p.a, .int .i64 p.b, .int .i64 p.c, .int .i64 p.d])).run Try.prog w = .ok (.bool false) w := by
  have he := eqQ w p p 9997
  simp only [decide_true] at he
  unfold qcs at he
  rw [run_neq_struct, run_equalIn_agg w 9999 _ _ _ seen_fields seen_stood]
  unfold Program.fieldsOf
  rw [Try.underlying69]
  simp [go_sem, Op.eqFields, part]
  rw [show (9999 : Nat) = 9997 + 2 from rfl, he]
  rfl
theorem seen_guarded (op : BinOp) (x y : Operand) (p q : Array Value) (w : World) : (eqGuard op 69 x y (.agg p) (.agg q)).run Try.prog w = .ok () w := run_eqGuard_agg w op _ x y p q seen_guard
set_option maxHeartbeats 1000000 in
theorem sameSeen_calls (w : World) (n₀ n₁ : Nat) (v1 v2 : Value) (L : List (Nat × (Nat → Nat))) (hL : L.length ≤ 9223372036854775807) (h1 : w.ownsRow n₀ 69 5 v1 L.length (sqCs L)) (h2 : w.ownsRow n₁ 69 5 v2 L.length (sqCs L)) :
    Calls Try.prog 30 #[v1, v2] w fun e w' => e = .returned (.bool true) ∧ ∃ n, w' = w.drewN n := by
  obtain ⟨a1, c1, rfl⟩ := ownsRow_slice h1
  obtain ⟨a2, c2, rfl⟩ := ownsRow_slice h2
  have hat : ∀ k, (hk : k < L.length) → ∃ g1 g2, a1 = some ⟨g1, 0, none⟩ ∧ a2 = some ⟨g2, 0, none⟩ ∧ ∀ j v, (sqC L[k])[j]? = some v → w.cell? ⟨g1, k * 5 + j, none⟩ = some v ∧ w.cell? ⟨g2, k * 5 + j, none⟩ = some v := by
    intro k hk
    rcases h1.2 with ⟨hv, h0⟩ | ⟨g1, cap1, cur1, hv1, _⟩
    · omega
    rcases h2.2 with ⟨hv, h0⟩ | ⟨g2, cap2, cur2, hv2, _⟩
    · omega
    simp at hv1 hv2
    obtain ⟨rfl, rfl⟩ := hv1
    obtain ⟨rfl, rfl⟩ := hv2
    have x1 := World.ownsRow.cells h1 (g := g1) rfl
    have x2 := World.ownsRow.cells h2 (g := g2) rfl
    refine ⟨g1, g2, rfl, rfl, fun j v hv => ?_⟩
    have hj : j < 5 := by have := (List.getElem?_eq_some_iff.1 hv).1; simpa [sqC] using this
    have hs := (sqCs_at L k hk j hj).trans hv
    have y1 := x1 (k * 5 + j) _ hs
    have y2 := x2 (k * 5 + j) _ hs
    rw [Addr.add_lit, Nat.zero_add] at y1 y2
    exact ⟨y1, y2⟩
  have HAT := Lib.hid hat
  have hne : ((L.length : Int) != (L.length : Int)) = false := by simp
  obtain ⟨N, hN⟩ : ∃ N, N = L.length := ⟨_, rfl⟩
  rw [← hN] at hne hL ⊢
  have HN := Lib.hid hN
  clear hat h1 h2 hN
  have hgd := seen_guarded
  go_enter Try.func30, Try.ntmps30
  go_wp2
  go_loopw [5] (fun i wr => ∃ k n, k ≤ N ∧ i = .int .i64 (k : Nat) ∧ wr = w.drewN n) (fun i _ => N - (intOf i).toNat)
  case atStart => exact ⟨0, 0, Nat.zero_le _, rfl, rfl⟩
  case round =>
    obtain ⟨k, n, hk, rfl, rfl⟩ := hrel
    by_cases hlt : k < N
    · obtain ⟨g1, g2, rfl, rfl, hc⟩ := HAT.out k (by have := HN.out; omega)
      obtain ⟨z, hz⟩ : ∃ z, z = L[k]'(by have := HN.out; omega) := ⟨_, rfl⟩
      rw [← hz] at hc
      obtain ⟨p0, hp0⟩ : ∃ p0 : Int, p0 = (z.1 : Nat) := ⟨_, rfl⟩
      obtain ⟨p, hp⟩ : ∃ p : Qd, p = ⟨(z.2 0 : Nat), (z.2 1 : Nat), (z.2 2 : Nat), (z.2 3 : Nat)⟩ := ⟨_, rfl⟩
      have y0 : w.cell? ⟨g1, k * 5, none⟩ = some (.int .i64 p0) := by rw [hp0]; exact (hc 0 _ rfl).1
      have y1 : w.cell? ⟨g1, k * 5 + 1, none⟩ = some (.int .i64 p.a) := by rw [hp]; exact (hc 1 _ rfl).1
      have y2 : w.cell? ⟨g1, k * 5 + 2, none⟩ = some (.int .i64 p.b) := by rw [hp]; exact (hc 2 _ rfl).1
      have y3 : w.cell? ⟨g1, k * 5 + 3, none⟩ = some (.int .i64 p.c) := by rw [hp]; exact (hc 3 _ rfl).1
      have y4 : w.cell? ⟨g1, k * 5 + 4, none⟩ = some (.int .i64 p.d) := by rw [hp]; exact (hc 4 _ rfl).1
      have u0 : w.cell? ⟨g2, k * 5, none⟩ = some (.int .i64 p0) := by rw [hp0]; exact (hc 0 _ rfl).2
      have u1 : w.cell? ⟨g2, k * 5 + 1, none⟩ = some (.int .i64 p.a) := by rw [hp]; exact (hc 1 _ rfl).2
      have u2 : w.cell? ⟨g2, k * 5 + 2, none⟩ = some (.int .i64 p.b) := by rw [hp]; exact (hc 2 _ rfl).2
      have u3 : w.cell? ⟨g2, k * 5 + 3, none⟩ = some (.int .i64 p.c) := by rw [hp]; exact (hc 3 _ rfl).2
      have u4 : w.cell? ⟨g2, k * 5 + 4, none⟩ = some (.int .i64 p.d) := by rw [hp]; exact (hc 4 _ rfl).2
      have hnq := seen_neq p0 p
      clear hp hp0 hz hc
      go_wp2_with fail
      go_quiet (fail)
      go_wp2
      go_roundw
      case rel => exact ⟨k + 1, _, by omega, by go_num, rfl⟩
      case measure => simp [intOf]; omega
    · go_wp2
      go_ret
      exact ⟨rfl, _, rfl⟩
end Go.Proofs.Ytgajpekolamjbaa
/- walked: what Each goes through, so many at most; twice. -/
namespace Go.Tk
open Go Go.RowKit
theorem grown_alloc (X : World) (o : Obj) : X.grownBy (X.alloc o) none := ⟨rfl, rfl, rfl, by simp, fun k hk _ => Below.heap_alloc _ _ _ hk⟩
/-- Between two rounds: the box holds what has come. -/
def TInv (T e : TypeId) (n₀ B M : Nat) (L : List (Nat × (Nat → Nat))) (i : Nat) (W : World) : Prop := ∃ v, Boxed W B T v ∧ W.ownsRow n₀ e 5 v i (sqCs (L.take i)) ∧ i ≤ M
/-- The loop has been left: all but the last have been taken. -/
def TOut (T e : TypeId) (n₀ B M : Nat) (L : List (Nat × (Nat → Nat))) (i : Nat) (W : World) : Prop := ∃ v, Boxed W B T v ∧ W.ownsRow n₀ e 5 v M (sqCs (L.take M)) ∧ i = M + 1
/-- Behind the loop, whichever way it ended. -/
def TEnd (T e : TypeId) (n₀ B M : Nat) (L : List (Nat × (Nat → Nat))) (W : World) : Prop := ∃ v, Boxed W B T v ∧ W.ownsRow n₀ e 5 v (L.take M).length (sqCs (L.take M))
theorem TInv.fin {T e : TypeId} {n₀ B M : Nat} {L : List (Nat × (Nat → Nat))} {W : World} (h : TInv T e n₀ B M L L.length W) : TEnd T e n₀ B M L W := by
  obtain ⟨v, h1, h2, h3⟩ := h
  refine ⟨v, h1, ?_⟩
  rw [List.take_of_length_le h3]
  rw [List.take_length] at h2
  exact h2
theorem TOut.fin {T e : TypeId} {n₀ B M i : Nat} {L : List (Nat × (Nat → Nat))} {W : World} (h : TOut T e n₀ B M L i W) (hi : i ≤ L.length) : TEnd T e n₀ B M L W := by
  obtain ⟨v, h1, h2, h3⟩ := h
  refine ⟨v, h1, ?_⟩
  rw [List.length_take, Nat.min_eq_left (by omega)]
  exact h2
end Go.Tk
namespace Go.Proofs.Ytgajpekolamjbaa
open Go.RowKit Go.Shelf Go.Tk
attribute [local go_sem] Oper.semAt_some
/-- The frame of round i: it hangs on what comes, and on the box of the quad. -/
def axBx (B : List (Nat × (Nat → Nat))) (fr : Nat × (Nat → Nat) → Nat → Act) : Nat → Act → World → Prop := fun i a' W => ∃ h : i < B.length, ∃ g, W.heap[g]? = some (.cells #[.int .i64 (B[i].2 0 : Nat), .int .i64 (B[i].2 1 : Nat), .int .i64 (B[i].2 2 : Nat), .int .i64 (B[i].2 3 : Nat)] 24 (0, 0)) ∧ a' = fr B[i] g
theorem axBx_intro {B : List (Nat × (Nat → Nat))} {fr : Nat × (Nat → Nat) → Nat → Act} {i : Nat} {a' : Act} {W : World} (h : i < B.length) {z : Nat × (Nat → Nat)} (hz : z = B[i]) {g : Nat} (hg : W.heap[g]? = some (.cells #[.int .i64 (z.2 0 : Nat), .int .i64 (z.2 1 : Nat), .int .i64 (z.2 2 : Nat), .int .i64 (z.2 3 : Nat)] 24 (0, 0))) (e : fr z g = a') : axBx B fr i a' W := ⟨h, g, by rw [← hz]; exact hg, by rw [← hz, e]⟩
theorem axBx_own {T : Nat} (B : List (Nat × (Nat → Nat))) (fr : Nat × (Nat → Nat) → Nat → Act) (i : Nat) (a' : Act) : OwnFrom T (fun (_ : Unit) W => axBx B fr i a' W) := fun _ X Y row ⟨h, g, hg, e⟩ hgr hr =>
  ⟨h, g, (hgr.block g (lt_of_block hg) (fun he => by obtain ⟨_, o, ho, hc⟩ := hr g he.symm; rw [hg] at ho; cases ho; cases hc)).trans hg, e⟩
theorem qow_box (u : Value) : ¬ QoW (.cells #[u] 63 (0, 0)) := by
  rintro ⟨cs, f, h⟩; injection h with h1 h2 h3; exact absurd h2 (by decide)
theorem qow_row (cs : Array Value) (f : Nat × Nat) : ¬ QoW (.cells cs 69 f) := by
  rintro ⟨cs', f', h⟩; injection h with h1 h2 h3; exact absurd h2 (by decide)
theorem Try.infoSeen : (Try.prog.info? 69).map (fun i => (i.zero, i.size, i.bytes)) = some (some (.agg #[.int .i64 0, .int .i64 0, .int .i64 0, .int .i64 0, .int .i64 0]), 5, 40) := by kernel_rfl
theorem TInv.ab {n₀ B M i : Nat} {L : List (Nat × (Nat → Nat))} {X Y : World} {row : Option Nat} (h : TInv 63 69 n₀ B M L i X) (hg : X.grownBy Y row) (hr : ∀ r, row = some r → ∃ o : Obj, X.heap[r]? = some o ∧ (QoW o ∨ o.isCells = false)) : TInv 63 69 n₀ B M L i Y := by
  obtain ⟨v, h1, h2, h3⟩ := h
  exact ⟨v, box_ab h1 qow_box hg hr, row_ab h2 qow_row hg hr, h3⟩
theorem TOut.ab {n₀ B M i : Nat} {L : List (Nat × (Nat → Nat))} {X Y : World} {row : Option Nat} (h : TOut 63 69 n₀ B M L i X) (hg : X.grownBy Y row) (hr : ∀ r, row = some r → ∃ o : Obj, X.heap[r]? = some o ∧ (QoW o ∨ o.isCells = false)) : TOut 63 69 n₀ B M L i Y := by
  obtain ⟨v, h1, h2, h3⟩ := h
  exact ⟨v, box_ab h1 qow_box hg hr, row_ab h2 qow_row hg hr, h3⟩
/-- An iterator that turns nothing, beside one that turns a block of a kind. -/
theorem seqI_of_T {n g p1 p2 : Nat} {lb : Array Value} {Ls : List (Array Value)} {w0 W : World} (h : SeqI Fence.wide n Try.prog g lb Ls (fun _ => False) (fun _ => KpT w0 p1 p2) W) (h0 : w0.heap.size ≤ W.heap.size) (h1 : p1 < W.heap.size) (h2 : p2 < W.heap.size) :
    SeqI Fence.wide n Try.prog g lb Ls QoW (KpO QoW (fun j => j < w0.heap.size ∨ j = p1 ∨ j = p2)) W := by
  intro l J Jx W' hW' hA hAx hY hJ0
  refine (h l (fun i X => J i X ∧ W.heap.size ≤ X.heap.size) Jx W' hW' (fun s X Y row ⟨g1, g2⟩ hg hr => ⟨hA s X Y row g1 hg (fun r e => by obtain ⟨_, o, _, hf⟩ := hr r e; exact hf.elim), Nat.le_trans g2 hg.size⟩)
    (fun s X Y row g1 hg hr => hAx s X Y row g1 hg (fun r e => by obtain ⟨_, o, _, hf⟩ := hr r e; exact hf.elim)) ?_ ⟨hJ0, hW'.size⟩).mono (fun e X ⟨g1, g2⟩ => ⟨g1, g2.imp (fun g => g.1) id⟩)
  intro i X hi ⟨hJ, hsz⟩
  obtain ⟨fn, tmps, assign, body, y1, y2⟩ := hY i X hi hJ
  refine ⟨fn, tmps, assign, body, y1, y2.mono fun e X' hh => ?_⟩
  rcases hh with ⟨e1, g1, g2⟩ | ⟨e1, g1, g2⟩
  · refine .inl ⟨e1, ⟨g1, Nat.le_trans hsz g2.size⟩, fun j hj => ?_⟩
    have hlt : j < X.heap.size := by rcases hj with hj | hj | hj <;> omega
    rw [Array.getElem?_eq_getElem hlt]
    exact g2.same j _ (Array.getElem?_eq_getElem hlt) (.inl hj)
  · exact .inr ⟨e1, g1, g2⟩
theorem each_len (b : List UInt8) : ∀ f i, (ehT b f i).length ≤ f
  | 0, _ => Nat.le_refl _
  | f + 1, i => by
    have := each_len b f (i + 1)
    simp only [ehT]
    split
    · omega
    · simp only [List.length_cons]; omega
set_option maxRecDepth 100000 in
set_option maxHeartbeats 4000000 in
theorem twalked_calls (w : World) (gd : Nat) (b : List UInt8) (a : Option Addr) (cap : Nat) (vp : Nat → Option Addr) (hT : TreeM w gd b a cap vp) (fr : Int) (hfr : -9223372036854775808 ≤ fr ∧ fr ≤ 9223372036854775807) (M : Nat) (hM : M ≤ 9223372036854775807) (L : List (Nat × (Nat → Nat))) (hL : L = eachT b fr) :
    Calls Try.prog 26 #[.pointer (some ⟨gd, 0, none⟩), .int .i64 fr, .int .i64 (M : Nat)] w fun e w' => ∃ v, e = .returned (.tuple #[v, .bool true]) ∧ w'.ownsRow w.heap.size 69 5 v (L.take M).length (sqCs (L.take M)) ∧ Below w.heap.size w w' := by
  obtain ⟨i0, hi, hz0, hz1, hz2⟩ := info_parts Try.infoSeen
  have HI := Lib.hid hi
  have HZ0 := Lib.hid hz0
  have HZ1 := Lib.hid hz1
  have HZ2 := Lib.hid hz2
  clear hi hz0 hz1 hz2
  have hLl : L.length ≤ 4194320 := by
    have h3 := hT.nk (k := 3) (by omega)
    rw [hL]
    have h1 := each_len b (tN b 3 - fr.toNat) fr.toNat
    unfold eachT; omega
  have hst : ∀ (V : World), V.heap[w.heap.size + 4]? = some (.cells #[.int .i64 fr] 3 (0, 0)) → V.heap[w.heap.size + 3]? = some (.cells #[.pointer (some ⟨gd, 0, none⟩)] 39 (0, 0)) → w.heap.size ≤ V.heap.size → (∀ j, j < w.heap.size → V.heap[j]? = w.heap[j]?) →
      SeqI Fence.wide 5 Try.prog 105 #[.pointer (some ⟨w.heap.size + 4, 0, none⟩), .pointer (some ⟨w.heap.size + 3, 0, none⟩)] (L.map encT) QoW (KpO QoW (fun j => j < w.heap.size ∨ j = w.heap.size + 4 ∨ j = w.heap.size + 3)) V :=
    fun V h4 h3 h1 h2 => seqI_of_T (teachI_in 5 (by omega) w gd b a cap vp hT (w.heap.size + 4) (w.heap.size + 3) fr hfr L hL V h4 h3 h1 h2) h1 (lt_of_block h4) (lt_of_block h3)
  have HST := Lib.hid hst
  clear hst hL hT
  refine (callsIn_wide (n := 6)).1 ?_
  refine callsIn_of_wp_marks Try.func26 rfl trivial ?_ rfl
  simp only [Try.ntmps26, List.size_toArray, List.length_cons, List.length_nil, Nat.reduceAdd, Nat.reduceSub, Array.replicate_succ, Array.replicate_zero, List.push_toArray, List.append_toArray, List.nil_append, List.cons_append]
  gi_wp2_with (refine ⟨trivial, ?_⟩; gi_at_call 67; refine (teach_in _ _ _ _).mono ?_; rintro e w' ⟨rfl, rfl⟩)
  have bM := ((((Boxed.new w 3 (.int .i64 (M : Nat))).alloc (.cells #[.slice none 0 0] 63)).alloc (.cells #[.slice none 0 0] 63)).alloc (.cells #[.pointer (some ⟨gd, 0, none⟩)] 39)).alloc (.cells #[.int .i64 fr] 3)
  have bl := (((Boxed.new (w.alloc (.cells #[.int .i64 (M : Nat)] 3)) 63 (.slice none 0 0)).alloc (.cells #[.slice none 0 0] 63)).alloc (.cells #[.pointer (some ⟨gd, 0, none⟩)] 39)).alloc (.cells #[.int .i64 fr] 3)
  have bm := ((Boxed.new ((w.alloc (.cells #[.int .i64 (M : Nat)] 3)).alloc (.cells #[.slice none 0 0] 63)) 63 (.slice none 0 0)).alloc (.cells #[.pointer (some ⟨gd, 0, none⟩)] 39)).alloc (.cells #[.int .i64 fr] 3)
  have b2 : Boxed _ _ 39 (.pointer (some ⟨gd, 0, none⟩)) := (Boxed.new (((w.alloc (.cells #[.int .i64 (M : Nat)] 3)).alloc (.cells #[.slice none 0 0] 63)).alloc (.cells #[.slice none 0 0] 63)) 39 (.pointer (some ⟨gd, 0, none⟩))).alloc (.cells #[.int .i64 fr] 3)
  have b1 := Boxed.new ((((w.alloc (.cells #[.int .i64 (M : Nat)] 3)).alloc (.cells #[.slice none 0 0] 63)).alloc (.cells #[.slice none 0 0] 63)).alloc (.cells #[.pointer (some ⟨gd, 0, none⟩)] 39)) 3 (.int .i64 fr)
  have hB : Below w.heap.size w (((((w.alloc (.cells #[.int .i64 (M : Nat)] 3)).alloc (.cells #[.slice none 0 0] 63)).alloc (.cells #[.slice none 0 0] 63)).alloc (.cells #[.pointer (some ⟨gd, 0, none⟩)] 39)).alloc (.cells #[.int .i64 fr] 3)) := (((((Below.refl _ w).alloc (Nat.le_refl _) _).alloc (by simp) _).alloc (by simp; omega) _).alloc (by simp; omega) _).alloc (by simp; omega) _
  have hsz : (((((w.alloc (.cells #[.int .i64 (M : Nat)] 3)).alloc (.cells #[.slice none 0 0] 63)).alloc (.cells #[.slice none 0 0] 63)).alloc (.cells #[.pointer (some ⟨gd, 0, none⟩)] 39)).alloc (.cells #[.int .i64 fr] 3)).heap.size = w.heap.size + 5 := by simp
  simp only [World.size_alloc, Nat.add_assoc, Nat.reduceAdd] at bM bl bm b1 b2 ⊢
  generalize (((((w.alloc (.cells #[.int .i64 (M : Nat)] 3)).alloc (.cells #[.slice none 0 0] 63)).alloc (.cells #[.slice none 0 0] 63)).alloc (.cells #[.pointer (some ⟨gd, 0, none⟩)] 39)).alloc (.cells #[.int .i64 fr] 3)) = W0 at bM bl bm b1 b2 hB hsz ⊢
  replace b1 : W0.heap[w.heap.size + 4]? = some (.cells #[.int .i64 fr] 3 (0, 0)) := b1
  replace b2 : W0.heap[w.heap.size + 3]? = some (.cells #[.pointer (some ⟨gd, 0, none⟩)] 39 (0, 0)) := b2
  rename_i Q1 K1 a1
  have after : ∀ (D : Nat) (W : World), W0.heap.size ≤ D → TEnd 63 69 (w.heap.size + 5) (w.heap.size + 1) M L W → Carry W0 (w.heap.size + 1) W → Below w.heap.size w W →
      W.heap[D]? = some (.deferred (some [])) → K1 { tmps := #[.pointer (some ⟨gd, 0, none⟩), .int .i64 fr, .int .i64 (M : Nat), undef, undef, .pointer (some ⟨w.heap.size, 0, none⟩), .slice none 0 0, .bool false, .pointer (some ⟨w.heap.size + 1, 0, none⟩), .pointer (some ⟨w.heap.size + 2, 0, none⟩), .func (.func 105) #[] #[.pointer (some ⟨w.heap.size + 4, 0, none⟩), .pointer (some ⟨w.heap.size + 3, 0, none⟩)], undef, undef, undef, undef, .pointer (some ⟨gd, 0, none⟩), .int .i64 fr, .func (.func 105) #[] #[.pointer (some ⟨w.heap.size + 4, 0, none⟩), .pointer (some ⟨w.heap.size + 3, 0, none⟩)], .func (.func 105) #[] #[.pointer (some ⟨w.heap.size + 4, 0, none⟩), .pointer (some ⟨w.heap.size + 3, 0, none⟩)], undef, undef, undef, undef, undef, undef, undef, undef, undef, undef, undef, undef, undef, undef, undef, undef, undef, undef, undef, undef, undef, undef, undef, undef, undef, undef, undef, undef, undef], defers := [{ target := .collected D, args := #[] }] } W := by
    rintro D W hD ⟨v1, hv1, hrow1⟩ hCa0 hBW hK
    have cM := hCa0.box bM (by omega)
    have cm := hCa0.box bm (by omega)
    have c1 := (hCa0.2 _ (lt_of_block b1) (by omega)).trans b1
    have c2 := (hCa0.2 _ (lt_of_block b2) (by omega)).trans b2
    have hszW := hCa0.1
    have hltD := lt_of_block hK
    refine a1 _ _ ?_
    gi_wp2
    rename_i K2 a2
    have lt1 := lt_of_block hv1
    have after2 : ∀ (D2 : Nat) (X : World), W.heap.size ≤ D2 → TEnd 63 69 W.heap.size (w.heap.size + 2) M L X → Carry W (w.heap.size + 2) X → Below w.heap.size w X → X.heap[D2]? = some (.deferred (some [])) →
        K2 { tmps := #[.pointer (some ⟨gd, 0, none⟩), .int .i64 fr, .int .i64 (M : Nat), undef, undef, .pointer (some ⟨w.heap.size, 0, none⟩), .slice none 0 0, .bool false, .pointer (some ⟨w.heap.size + 1, 0, none⟩), .pointer (some ⟨w.heap.size + 2, 0, none⟩), .func (.func 105) #[] #[.pointer (some ⟨w.heap.size + 4, 0, none⟩), .pointer (some ⟨w.heap.size + 3, 0, none⟩)], undef, undef, undef, undef, .pointer (some ⟨gd, 0, none⟩), .int .i64 fr, .func (.func 105) #[] #[.pointer (some ⟨w.heap.size + 4, 0, none⟩), .pointer (some ⟨w.heap.size + 3, 0, none⟩)], .func (.func 105) #[] #[.pointer (some ⟨w.heap.size + 4, 0, none⟩), .pointer (some ⟨w.heap.size + 3, 0, none⟩)], undef, undef, undef, undef, undef, undef, undef, undef, undef, undef, undef, undef, .func (.func 105) #[] #[.pointer (some ⟨w.heap.size + 4, 0, none⟩), .pointer (some ⟨w.heap.size + 3, 0, none⟩)], undef, undef, undef, undef, undef, undef, undef, undef, undef, undef, undef, undef, undef, undef, undef, undef], defers := [{ target := .collected D2, args := #[] }, { target := .collected D, args := #[] }] } X := by
      rintro D2 X hD2 ⟨v2, hv2, hrow2⟩ hCa hBX hK2
      refine a2 _ _ ?_
      refine wpIn_wide.2 ?_
      dsimp only
      have hX0 := hBX.size
      have hne : D ≠ D2 := by omega
      have hDX : X.heap[D]? = some (.deferred (some [])) := (hCa.2 D (by omega) (by omega)).trans hK
      have x1 := hCa.box hv1 (by omega)
      have r1 := hCa.row hrow1 cm (by decide)
      have hx1 := x1.cell
      have hx2 := hv2.cell
      have same := fun n => sameSeen_calls (X.drewN n) (w.heap.size + 5) W.heap.size v1 v2 (L.take M) (by simp; omega) r1 hrow2
      have R1 := Lib.hid r1
      have ND : Hid ([D2, D].Nodup) := Lib.hid (by simp; omega)
      have KD := Lib.hid hDX
      have KD2 := Lib.hid hK2
      have BX := Lib.hid hBX
      have LE1 := Lib.hid (show w.heap.size ≤ D by omega)
      have LE2 := Lib.hid (show w.heap.size ≤ D2 by omega)
      clear x1 r1 hX0 hne hDX hK hK2 hBX hCa hrow1 hrow2 hv1 hv2 cM cm c1 c2 hBW
      refine wp_seq ?_
      go_quiet ((go_at_call 30; exact (same _).mono fun _ _ ⟨he, m, hm⟩ => ⟨he, _, hm.trans (drewN_drewN X _ m)⟩))
      show Code.wp _ Code.ret Q1 _ _
      refine wp_ret ?_
      show LeavesInM Fence.wide 6 _ _ _ _ (marks [D2, D]) .returning _
      refine leavesMarks (v := .tuple #[v1, .bool true]) (fun Y => Y.ownsRow (w.heap.size + 5) 69 5 v1 (L.take M).length (sqCs (L.take M)) ∧ Below w.heap.size w Y) w.heap.size (fun Y E h hE hh => ⟨row_put h.1 hh rfl _, h.2.grown (grownBy_putObj' _ E (.deferred none)) h.2.size (fun k e => by cases e; exact hE)⟩) (fun Y _ => (results_tmp2 (t := 6) (u := 7) rfl _ _ _).trans rfl) (fun Y h => ⟨v1, rfl, ownsRow_mono h.1 (by omega), h.2⟩) [D2, D] (X.drewN nq) ND.out ?_ ⟨R1.out, below_drewN BX.out nq⟩
      intro E hE
      rcases List.mem_cons.1 hE with rfl | hE
      · exact ⟨LE2.out, KD2.out⟩
      · obtain rfl := List.mem_singleton.1 hE
        exact ⟨LE1.out, KD.out⟩
    refine wpIn_rangeFunc_ownI rfl (by omega) (gf := 105) (lb := #[.pointer (some ⟨w.heap.size + 4, 0, none⟩), .pointer (some ⟨w.heap.size + 3, 0, none⟩)]) rfl trivial (enters_of Try.func105 (by kernel_rfl) rfl)
      (HST.out W c1 c2 hBW.size (fun j hj => hBW.block j hj)) (fun h k => h.trans k) (fun X l o o' hl hl2 h1 h2 h3 => ⟨by simp, fun j o hj hs => (World.putObj_heap_other (fun e => by
          subst e
          rw [h1] at hj; cases hj
          rcases hs with (hs | hs | hs) | ⟨cs, f, hs⟩ | hs
          · omega
          · omega
          · omega
          · subst hs; cases h2
          · omega)).trans hj⟩) (Below.refl _ _) (fun x hx => by obtain ⟨y, _, rfl⟩ := List.mem_map.1 hx; rfl)
      (fun i X => TInv 63 69 (W.heap.size) (w.heap.size + 2) M L i X ∧ Carry W (w.heap.size + 2) X ∧ Below w.heap.size w X)
      (fun c i X => c = .exit 2 ∧ TOut 63 69 (W.heap.size) (w.heap.size + 2) M L i X ∧ Carry W (w.heap.size + 2) X ∧ Below w.heap.size w X)
      (fun i X Y row ⟨h1, h2, h3⟩ hg hr => ⟨TInv.ab h1 hg (fun r e => (hr r e).2), h2.abd hg (fun r e => (hr r e).1), h3.grown hg (by have := h3.size; omega) (fun r e => by have := (hr r e).1; have := hBW.size; omega)⟩)
      (fun c i X Y row ⟨h0, h1, h2, h3⟩ hg hr => ⟨h0, TOut.ab h1 hg (fun r e => (hr r e).2), h2.abd hg (fun r e => (hr r e).1), h3.grown hg (by have := h3.size; omega) (fun r e => by have := (hr r e).1; have := hBW.size; omega)⟩)
      ⟨⟨_, cm, World.ownsRow_nil _ _ _ _, Nat.zero_le _⟩, Carry.refl _ _, hBW⟩
      (axBx L ?fr2) (axBx_own _ _) ?assign2 ?body2 ?done2 ?stop2
    case assign2 =>
      intro l i hi X K hI hK
      have hiL : i < L.length := by simpa using hi
      obtain ⟨z, hz⟩ : ∃ z, z = L[i] := ⟨_, rfl⟩
      rw [List.getElem_map, ← hz]
      have HZ := Lib.hid hz
      have HI0 := Lib.hid hI
      clear hz
      unfold encT
      gi_wp2
      refine hK _ _ ((KeepsOthers.alloc _ _).from _) ⟨by simp, fun j o hj _ => (Below.heap_alloc _ _ _ (Array.getElem?_eq_some_iff.1 hj).1).trans hj⟩
        ⟨TInv.ab HI0.out.1 (grown_alloc _ _) (fun r e => by cases e), HI0.out.2.1.abd (grown_alloc _ _) (fun r e => by cases e), HI0.out.2.2.alloc HI0.out.2.2.size _⟩ ?_
      have hbx := heap_alloc_new X (.cells #[.int .i64 (z.2 0 : Nat), .int .i64 (z.2 1 : Nat), .int .i64 (z.2 2 : Nat), .int .i64 (z.2 3 : Nat)] 24)
      generalize X.heap.size = gx at hbx ⊢
      refine axBx_intro hiL HZ.out hbx ?_
      exact Eq.refl _
    case body2 =>
      rintro l i hi a' X hl ⟨r0, hr0⟩ ⟨⟨v, hv, hrow, hlM⟩, hCa, hBX⟩ ⟨hiL, gq, hgq, rfl⟩
      have hll : (L.take i).length = i := by rw [List.length_take]; omega
      have htk : L.take (i + 1) = L.take i ++ [L[i]] := List.take_succ_eq_append_getElem hiL
      obtain ⟨z, hz⟩ : ∃ z, z = L[i] := ⟨_, rfl⟩
      dsimp only
      rw [← hz] at htk hgq ⊢
      clear hz
      have hcs : sqCs (L.take (i + 1)) = sqCs (L.take i) ++ [.int .i64 (z.1 : Nat), .int .i64 (z.2 0 : Nat), .int .i64 (z.2 1 : Nat), .int .i64 (z.2 2 : Nat), .int .i64 (z.2 3 : Nat)] := by rw [htk, sqCs_snoc]; rfl
      have HCS := Lib.hid hcs
      obtain ⟨a, cp, rfl⟩ := ownsRow_slice hrow
      have d0 := hCa.box cM (by omega)
      have d1 := (hCa.2 _ (lt_of_block c1) (by omega)).trans c1
      have d2 := (hCa.2 _ (lt_of_block c2) (by omega)).trans c2
      have hc := hv.cell
      have hc0 := d0.cell
      have g0 : X.cell? ⟨gq, 0, none⟩ = some (.int .i64 (z.2 0 : Nat)) := cell_of_row X gq 0 _ _ _ hgq
      have g1 : X.cell? ⟨gq, 1, none⟩ = some (.int .i64 (z.2 1 : Nat)) := cell_of_row X gq 1 _ _ _ hgq
      have g2 : X.cell? ⟨gq, 2, none⟩ = some (.int .i64 (z.2 2 : Nat)) := cell_of_row X gq 2 _ _ _ hgq
      have g3 : X.cell? ⟨gq, 3, none⟩ = some (.int .i64 (z.2 3 : Nat)) := cell_of_row X gq 3 _ _ _ hgq
      have hszX := hBX.size
      have hszC := hCa.1
      have hzV := hBW.size
      have D1 := Lib.hid d1
      have D2 := Lib.hid d2
      have HROW := Lib.hid hrow
      have HV := Lib.hid hv
      have HCA := Lib.hid hCa
      have HBX := Lib.hid hBX
      clear d0 d1 d2 hCa hBX hrow hv hr0 htk hcs hgq
      by_cases hML : i = M
      · have e1 : decide (M ≤ i) = true := decide_eq_true (by omega)
        have hfin : TOut 63 69 (W.heap.size) (w.heap.size + 2) M L (i + 1) X := ⟨_, HV.out, by rw [← hML]; exact HROW.out, by rw [hML]⟩
        have HF := Lib.hid hfin
        clear hfin hML
        gi_wp2
        exact ⟨KeepsFrom.refl _ _, rfl, HF.out, HCA.out, HBX.out⟩
      · have e1 : decide (M ≤ i) = false := decide_eq_false (by omega)
        have hLp : i < 4194400 := by omega
        gi_wp2_with (gi_at_builtin; refine wpListIn_append_own _ rfl _ _ 63 rfl (W.heap.size) 69 i0 (.agg #[.int .i64 0, .int .i64 0, .int .i64 0, .int .i64 0, .int .i64 0]) 5 40 Try.underlying63 HI.out HZ0.out HZ1.out HZ2.out rfl (by decide) _ _ _ rfl (HROW.out.alloc _) ⟨X.heap.size, 0, none⟩ 1 1 [.int .i64 (z.1 : Nat), .int .i64 (z.2 0 : Nat), .int .i64 (z.2 1 : Nat), .int .i64 (z.2 2 : Nat), .int .i64 (z.2 3 : Nat)] rfl rfl (cells_new _ _ _) (by simp [Value.oneCell']) (by unfold maxLen; omega) (by omega) (by simp; omega) ?_; intro v' w1 hown' hgrow _; obtain ⟨g', cap', rfl⟩ := ownsRow_succ hown'; obtain ⟨hv1, hv2, hr2, hk2, hb2, _, hb3⟩ := boxed_app (n₁ := w.heap.size) HV.out (by decide) HROW.out (by omega) (by omega) (by omega) hown' hgrow; have hc1 := hv1.cell; have hf1 := hv1.frozen; (have HV2 := Lib.hid hv2); (have HR2 := Lib.hid hr2); (have HK2 := Lib.hid hk2); (have HB2 := Lib.hid hb2); (have HB3 := Lib.hid hb3); (have HAK := Lib.hid (app_keeps (Q := QoW) (v' := .slice (some ⟨g', 0, none⟩) (i + 1) cap') HV.out qow_box qow_row HROW.out hgrow)); clear hv1 hv2 hr2 hk2 hb2 hb3 hown' hgrow)
        refine ⟨HK2.out.from _, ⟨HK2.out.size, fun j o ho hs => ?_⟩, ⟨_, HV2.out, ?_, by omega⟩, ⟨Nat.le_trans hszC HK2.out.size, fun j hj hjB => (HB3.out j (by omega) (by omega) hjB).trans (HCA.out.2 j hj hjB)⟩, HBX.out.trans HB2.out⟩
        · rcases hs with (hs | hs | hs) | hs | hs
          · exact (HB3.out j (by omega) (by omega) (by omega)).trans ho
          · have hjX := (Array.getElem?_eq_some_iff.1 ho).1
            exact (HB3.out j (by omega) hjX (by omega)).trans ho
          · have hjX := (Array.getElem?_eq_some_iff.1 ho).1
            exact (HB3.out j (by omega) hjX (by omega)).trans ho
          · exact HAK.out _ _ ho (.inl hs)
          · exact HAK.out _ _ ho (.inr hs.2)
        · rw [HCS.out]
          exact HR2.out
    case done2 =>
      rintro D2 X hD2 ⟨hI, hCa, hBX⟩ hK
      rw [List.length_map] at hI
      exact after2 D2 X hD2 hI.fin hCa hBX hK
    case stop2 =>
      rintro D2 c i X hD2 hi ⟨rfl, hO, hCa, hBX⟩ hK
      rw [List.length_map] at hi
      gi_wp2
      exact after2 D2 X hD2 (hO.fin hi) hCa hBX hK

  refine wpIn_rangeFunc_ownI rfl (by omega) (gf := 105) (lb := #[.pointer (some ⟨w.heap.size + 4, 0, none⟩), .pointer (some ⟨w.heap.size + 3, 0, none⟩)]) rfl trivial (enters_of Try.func105 (by kernel_rfl) rfl)
    (HST.out W0 b1 b2 hB.size (fun j hj => hB.block j hj)) (fun h k => h.trans k) (fun X l o o' hl hl2 h1 h2 h3 => ⟨by simp, fun j o hj hs => (World.putObj_heap_other (fun e => by
        subst e
        rw [h1] at hj; cases hj
        rcases hs with (hs | hs | hs) | ⟨cs, f, hs⟩ | hs
        · omega
        · omega
        · omega
        · subst hs; cases h2
        · omega)).trans hj⟩) (Below.refl _ _) (fun x hx => by obtain ⟨y, _, rfl⟩ := List.mem_map.1 hx; rfl)
    (fun i X => TInv 63 69 (w.heap.size + 5) (w.heap.size + 1) M L i X ∧ Carry W0 (w.heap.size + 1) X ∧ Below w.heap.size w X)
    (fun c i X => c = .exit 0 ∧ TOut 63 69 (w.heap.size + 5) (w.heap.size + 1) M L i X ∧ Carry W0 (w.heap.size + 1) X ∧ Below w.heap.size w X)
    (fun i X Y row ⟨h1, h2, h3⟩ hg hr => ⟨TInv.ab h1 hg (fun r e => (hr r e).2), h2.abd hg (fun r e => (hr r e).1), h3.grown hg (by have := h3.size; omega) (fun r e => by have := (hr r e).1; have := hB.size; omega)⟩)
    (fun c i X Y row ⟨h0, h1, h2, h3⟩ hg hr => ⟨h0, TOut.ab h1 hg (fun r e => (hr r e).2), h2.abd hg (fun r e => (hr r e).1), h3.grown hg (by have := h3.size; omega) (fun r e => by have := (hr r e).1; have := hB.size; omega)⟩)
    ⟨⟨_, bl, World.ownsRow_nil _ _ _ _, Nat.zero_le _⟩, Carry.refl _ _, hB⟩
    (axBx L ?fr1) (axBx_own _ _) ?assign1 ?body1 ?done1 ?stop1
  case assign1 =>
    intro l i hi X K hI hK
    have hiL : i < L.length := by simpa using hi
    obtain ⟨z, hz⟩ : ∃ z, z = L[i] := ⟨_, rfl⟩
    rw [List.getElem_map, ← hz]
    have HZ := Lib.hid hz
    have HI0 := Lib.hid hI
    clear hz
    unfold encT
    gi_wp2
    refine hK _ _ ((KeepsOthers.alloc _ _).from _) ⟨by simp, fun j o hj _ => (Below.heap_alloc _ _ _ (Array.getElem?_eq_some_iff.1 hj).1).trans hj⟩
      ⟨TInv.ab HI0.out.1 (grown_alloc _ _) (fun r e => by cases e), HI0.out.2.1.abd (grown_alloc _ _) (fun r e => by cases e), HI0.out.2.2.alloc HI0.out.2.2.size _⟩ ?_
    have hbx := heap_alloc_new X (.cells #[.int .i64 (z.2 0 : Nat), .int .i64 (z.2 1 : Nat), .int .i64 (z.2 2 : Nat), .int .i64 (z.2 3 : Nat)] 24)
    generalize X.heap.size = gx at hbx ⊢
    refine axBx_intro hiL HZ.out hbx ?_
    exact Eq.refl _
  case body1 =>
    rintro l i hi a' X hl ⟨r0, hr0⟩ ⟨⟨v, hv, hrow, hlM⟩, hCa, hBX⟩ ⟨hiL, gq, hgq, rfl⟩
    have hll : (L.take i).length = i := by rw [List.length_take]; omega
    have htk : L.take (i + 1) = L.take i ++ [L[i]] := List.take_succ_eq_append_getElem hiL
    obtain ⟨z, hz⟩ : ∃ z, z = L[i] := ⟨_, rfl⟩
    dsimp only
    rw [← hz] at htk hgq ⊢
    clear hz
    have hcs : sqCs (L.take (i + 1)) = sqCs (L.take i) ++ [.int .i64 (z.1 : Nat), .int .i64 (z.2 0 : Nat), .int .i64 (z.2 1 : Nat), .int .i64 (z.2 2 : Nat), .int .i64 (z.2 3 : Nat)] := by rw [htk, sqCs_snoc]; rfl
    have HCS := Lib.hid hcs
    obtain ⟨a, cp, rfl⟩ := ownsRow_slice hrow
    have d0 := hCa.box bM (by omega)
    have d1 := (hCa.2 _ (lt_of_block b1) (by omega)).trans b1
    have d2 := (hCa.2 _ (lt_of_block b2) (by omega)).trans b2
    have hc := hv.cell
    have hc0 := d0.cell
    have g0 : X.cell? ⟨gq, 0, none⟩ = some (.int .i64 (z.2 0 : Nat)) := cell_of_row X gq 0 _ _ _ hgq
    have g1 : X.cell? ⟨gq, 1, none⟩ = some (.int .i64 (z.2 1 : Nat)) := cell_of_row X gq 1 _ _ _ hgq
    have g2 : X.cell? ⟨gq, 2, none⟩ = some (.int .i64 (z.2 2 : Nat)) := cell_of_row X gq 2 _ _ _ hgq
    have g3 : X.cell? ⟨gq, 3, none⟩ = some (.int .i64 (z.2 3 : Nat)) := cell_of_row X gq 3 _ _ _ hgq
    have hszX := hBX.size
    have hszC := hCa.1
    have hzV := hB.size
    have D1 := Lib.hid d1
    have D2 := Lib.hid d2
    have HROW := Lib.hid hrow
    have HV := Lib.hid hv
    have HCA := Lib.hid hCa
    have HBX := Lib.hid hBX
    clear d0 d1 d2 hCa hBX hrow hv hr0 htk hcs hgq
    by_cases hML : i = M
    · have e1 : decide (M ≤ i) = true := decide_eq_true (by omega)
      have hfin : TOut 63 69 (w.heap.size + 5) (w.heap.size + 1) M L (i + 1) X := ⟨_, HV.out, by rw [← hML]; exact HROW.out, by rw [hML]⟩
      have HF := Lib.hid hfin
      clear hfin hML
      gi_wp2
      exact ⟨KeepsFrom.refl _ _, rfl, HF.out, HCA.out, HBX.out⟩
    · have e1 : decide (M ≤ i) = false := decide_eq_false (by omega)
      have hLp : i < 4194400 := by omega
      gi_wp2_with (gi_at_builtin; refine wpListIn_append_own _ rfl _ _ 63 rfl (w.heap.size + 5) 69 i0 (.agg #[.int .i64 0, .int .i64 0, .int .i64 0, .int .i64 0, .int .i64 0]) 5 40 Try.underlying63 HI.out HZ0.out HZ1.out HZ2.out rfl (by decide) _ _ _ rfl (HROW.out.alloc _) ⟨X.heap.size, 0, none⟩ 1 1 [.int .i64 (z.1 : Nat), .int .i64 (z.2 0 : Nat), .int .i64 (z.2 1 : Nat), .int .i64 (z.2 2 : Nat), .int .i64 (z.2 3 : Nat)] rfl rfl (cells_new _ _ _) (by simp [Value.oneCell']) (by unfold maxLen; omega) (by omega) (by simp; omega) ?_; intro v' w1 hown' hgrow _; obtain ⟨g', cap', rfl⟩ := ownsRow_succ hown'; obtain ⟨hv1, hv2, hr2, hk2, hb2, _, hb3⟩ := boxed_app (n₁ := w.heap.size) HV.out (by decide) HROW.out (by omega) (by omega) (by omega) hown' hgrow; have hc1 := hv1.cell; have hf1 := hv1.frozen; (have HV2 := Lib.hid hv2); (have HR2 := Lib.hid hr2); (have HK2 := Lib.hid hk2); (have HB2 := Lib.hid hb2); (have HB3 := Lib.hid hb3); (have HAK := Lib.hid (app_keeps (Q := QoW) (v' := .slice (some ⟨g', 0, none⟩) (i + 1) cap') HV.out qow_box qow_row HROW.out hgrow)); clear hv1 hv2 hr2 hk2 hb2 hb3 hown' hgrow)
      refine ⟨HK2.out.from _, ⟨HK2.out.size, fun j o ho hs => ?_⟩, ⟨_, HV2.out, ?_, by omega⟩, ⟨Nat.le_trans hszC HK2.out.size, fun j hj hjB => (HB3.out j (by omega) (by omega) hjB).trans (HCA.out.2 j hj hjB)⟩, HBX.out.trans HB2.out⟩
      · rcases hs with (hs | hs | hs) | hs | hs
        · exact (HB3.out j (by omega) (by omega) (by omega)).trans ho
        · have hjX := (Array.getElem?_eq_some_iff.1 ho).1
          exact (HB3.out j (by omega) hjX (by omega)).trans ho
        · have hjX := (Array.getElem?_eq_some_iff.1 ho).1
          exact (HB3.out j (by omega) hjX (by omega)).trans ho
        · exact HAK.out _ _ ho (.inl hs)
        · exact HAK.out _ _ ho (.inr hs.2)
      · rw [HCS.out]
        exact HR2.out
  case done1 =>
    rintro D1 X hD1 ⟨hI, hCa, hBX⟩ hK
    rw [List.length_map] at hI
    exact after D1 X hD1 hI.fin hCa hBX hK
  case stop1 =>
    rintro D1 c i X hD1 hi ⟨rfl, hO, hCa, hBX⟩ hK
    rw [List.length_map] at hi
    gi_wp2
    exact after D1 X hD1 (hO.fin hi) hCa hBX hK

end Go.Proofs.Ytgajpekolamjbaa
/- matched: what Match goes through, so many at most; twice. -/
namespace Go.Proofs.Ytgajpekolamjbaa
open Go.RowKit Go.Shelf Go.Tk
attribute [local go_sem] Oper.semAt_some
theorem seqI_more {n g : Nat} {lb : Array Value} {Ls : List (Array Value)} {S S' : Nat → Prop} {W : World} (h : SeqI Fence.wide n Try.prog g lb Ls QoW (KpO QoW S) W) (hs : ∀ j, S j → S' j) : SeqI Fence.wide n Try.prog g lb Ls QoW (KpO QoW S') W := by
  intro l J Jx W' hW' hA hAx hY hJ0
  refine h l J Jx W' hW' hA hAx ?_ hJ0
  intro i X hi hJ
  obtain ⟨fn, tmps, assign, body, y1, y2⟩ := hY i X hi hJ
  refine ⟨fn, tmps, assign, body, y1, y2.mono fun e X' hh => ?_⟩
  rcases hh with ⟨e1, g1, g2⟩ | ⟨e1, g1, g2⟩
  · exact .inl ⟨e1, g1, g2.size, fun j o ho hj => g2.same j o ho (hj.imp (hs j) id)⟩
  · exact .inr ⟨e1, g1, g2⟩
set_option maxRecDepth 100000 in
set_option maxHeartbeats 4000000 in
theorem tmatched_calls (w : World) (gd : Nat) (b : List UInt8) (a : Option Addr) (cap : Nat) (vp : Nat → Option Addr) (hT : TreeM w gd b a cap vp) (q : Qd) (M : Nat) (hM : M ≤ 9223372036854775807) (L : List (Nat × (Nat → Nat))) (hL : L = matchT b q) :
    Calls Try.prog 29 #[.pointer (some ⟨gd, 0, none⟩), .agg (qcs q).toArray, .int .i64 (M : Nat)] w fun e w' => ∃ v, e = .returned (.tuple #[v, .bool true]) ∧ w'.ownsRow w.heap.size 69 5 v (L.take M).length (sqCs (L.take M)) ∧ Below w.heap.size w w' := by
  obtain ⟨i0, hi, hz0, hz1, hz2⟩ := info_parts Try.infoSeen
  have HI := Lib.hid hi
  have HZ0 := Lib.hid hz0
  have HZ1 := Lib.hid hz1
  have HZ2 := Lib.hid hz2
  clear hi hz0 hz1 hz2
  have hLl : L.length ≤ 4194320 := by
    have h3 := hT.nk (k := 3) (by omega)
    rw [hL]
    have h1 := match_len b q
    omega
  have hst : ∀ (V : World), V.heap[w.heap.size + 4]? = some (.cells #[.pointer (some ⟨gd, 0, none⟩)] 39 (0, 0)) → V.heap[w.heap.size + 5]? = some (.cells (qcs q).toArray 24 (0, 0)) → w.heap.size ≤ V.heap.size → (∀ j, j < w.heap.size → V.heap[j]? = w.heap[j]?) →
      SeqI Fence.wide 5 Try.prog 106 #[.pointer (some ⟨w.heap.size + 4, 0, none⟩), .pointer (some ⟨w.heap.size + 5, 0, none⟩)] (L.map encT) QoW (KpO QoW (fun j => j < w.heap.size ∨ j = w.heap.size + 4 ∨ j = w.heap.size + 5)) V :=
    fun V h4 h3 h1 h2 => seqI_more (tmatchI_in 5 w gd b a cap vp hT (w.heap.size + 4) (w.heap.size + 5) q L hL V h4 h3 h1 h2) (fun j hj => .inl hj)
  have HST := Lib.hid hst
  clear hst hL hT
  refine (callsIn_wide (n := 6)).1 ?_
  refine callsIn_of_wp_marks Try.func29 rfl trivial ?_ rfl
  simp only [Try.ntmps29, List.size_toArray, List.length_cons, List.length_nil, Nat.reduceAdd, Nat.reduceSub, Array.replicate_succ, Array.replicate_zero, List.push_toArray, List.append_toArray, List.nil_append, List.cons_append]
  gi_upto_region 3 with (fail)
  have bM := ((Boxed.new (w.alloc (.cells (qcs q).toArray 24)) 3 (.int .i64 (M : Nat))).alloc (.cells #[.slice none 0 0] 63)).alloc (.cells #[.slice none 0 0] 63)
  have bl := (Boxed.new ((w.alloc (.cells (qcs q).toArray 24)).alloc (.cells #[.int .i64 (M : Nat)] 3)) 63 (.slice none 0 0)).alloc (.cells #[.slice none 0 0] 63)
  have bm := Boxed.new (((w.alloc (.cells (qcs q).toArray 24)).alloc (.cells #[.int .i64 (M : Nat)] 3)).alloc (.cells #[.slice none 0 0] 63)) 63 (.slice none 0 0)
  have bq : ((((w.alloc (.cells (qcs q).toArray 24)).alloc (.cells #[.int .i64 (M : Nat)] 3)).alloc (.cells #[.slice none 0 0] 63)).alloc (.cells #[.slice none 0 0] 63)).heap[w.heap.size]? = some (.cells (qcs q).toArray 24 (0, 0)) := by
    have h0 := heap_alloc_new w (.cells (qcs q).toArray 24)
    exact (Below.heap_alloc _ _ _ (by simp; omega)).trans ((Below.heap_alloc _ _ _ (by simp; omega)).trans ((Below.heap_alloc _ _ _ (by simp)).trans h0))
  have hB : Below w.heap.size w ((((w.alloc (.cells (qcs q).toArray 24)).alloc (.cells #[.int .i64 (M : Nat)] 3)).alloc (.cells #[.slice none 0 0] 63)).alloc (.cells #[.slice none 0 0] 63)) := ((((Below.refl _ w).alloc (Nat.le_refl _) _).alloc (by simp) _).alloc (by simp; omega) _).alloc (by simp; omega) _
  have hsz4 : ((((w.alloc (.cells (qcs q).toArray 24)).alloc (.cells #[.int .i64 (M : Nat)] 3)).alloc (.cells #[.slice none 0 0] 63)).alloc (.cells #[.slice none 0 0] 63)).heap.size = w.heap.size + 4 := by simp
  simp only [World.size_alloc, Nat.add_assoc, Nat.reduceAdd] at bM bl bm ⊢
  generalize ((((w.alloc (.cells (qcs q).toArray 24)).alloc (.cells #[.int .i64 (M : Nat)] 3)).alloc (.cells #[.slice none 0 0] 63)).alloc (.cells #[.slice none 0 0] 63)) = W4 at bM bl bm bq hB hsz4 ⊢
  have q0 := qcs_cell bq 0 (by omega)
  have q1 := qcs_cell bq 1 (by omega)
  have q2 := qcs_cell bq 2 (by omega)
  have q3 := qcs_cell bq 3 (by omega)
  have hM2 := tmatch_in 5 gd q W4
  rw [hsz4] at hM2
  have HMM := Lib.hid (show CallsIn Fence.wide 5 Try.prog 68 #[.pointer (some ⟨gd, 0, none⟩), .agg #[.int .i64 (q.at 0), .int .i64 (q.at 1), .int .i64 (q.at 2), .int .i64 (q.at 3)]] W4 fun e w' => e = .returned (.func (.func 106) #[] #[.pointer (some ⟨w.heap.size + 4, 0, none⟩), .pointer (some ⟨w.heap.size + 4 + 1, 0, none⟩)]) ∧ w' = (W4.alloc (.cells #[.pointer (some ⟨gd, 0, none⟩)] 39)).alloc (.cells (qcs q).toArray 24) from hM2)
  have HSZ4 := Lib.hid hsz4
  have BM := Lib.hid bM
  have BL := Lib.hid bl
  have BN := Lib.hid bm
  have HB4 := Lib.hid hB
  clear hM2 bM bl bm bq hB hsz4
  gi_wp2_with (refine ⟨trivial, ?_⟩; gi_at_call 68; (with_reducible refine HMM.out.mono ?_); rintro e w' ⟨rfl, rfl⟩)
  have bM := (BM.out.alloc (.cells #[.pointer (some ⟨gd, 0, none⟩)] 39)).alloc (.cells (qcs q).toArray 24)
  have bl := (BL.out.alloc (.cells #[.pointer (some ⟨gd, 0, none⟩)] 39)).alloc (.cells (qcs q).toArray 24)
  have bm := (BN.out.alloc (.cells #[.pointer (some ⟨gd, 0, none⟩)] 39)).alloc (.cells (qcs q).toArray 24)
  have b1 : ((W4.alloc (.cells #[.pointer (some ⟨gd, 0, none⟩)] 39)).alloc (.cells (qcs q).toArray 24)).heap[w.heap.size + 4]? = some (.cells #[.pointer (some ⟨gd, 0, none⟩)] 39 (0, 0)) := by
    have h0 := heap_alloc_new W4 (.cells #[.pointer (some ⟨gd, 0, none⟩)] 39)
    rw [HSZ4.out] at h0
    exact (Below.heap_alloc _ _ _ (by simp [HSZ4.out])).trans h0
  have b2 : ((W4.alloc (.cells #[.pointer (some ⟨gd, 0, none⟩)] 39)).alloc (.cells (qcs q).toArray 24)).heap[w.heap.size + 5]? = some (.cells (qcs q).toArray 24 (0, 0)) := by
    have h0 := heap_alloc_new (W4.alloc (.cells #[.pointer (some ⟨gd, 0, none⟩)] 39)) (.cells (qcs q).toArray 24)
    rwa [World.size_alloc, HSZ4.out] at h0
  have hB := (HB4.out.alloc HB4.out.size (.cells #[.pointer (some ⟨gd, 0, none⟩)] 39)).alloc (by simp; have := HSZ4.out; omega) (.cells (qcs q).toArray 24)
  have hsz : ((W4.alloc (.cells #[.pointer (some ⟨gd, 0, none⟩)] 39)).alloc (.cells (qcs q).toArray 24)).heap.size = w.heap.size + 6 := by simp [HSZ4.out]
  generalize (W4.alloc (.cells #[.pointer (some ⟨gd, 0, none⟩)] 39)).alloc (.cells (qcs q).toArray 24) = W0 at bM bl bm b1 b2 hB hsz ⊢
  simp only [Nat.add_assoc, Nat.reduceAdd]
  clear q0 q1 q2 q3 BM BL BN HB4
  rename_i Q1 K1 a1
  have after : ∀ (D : Nat) (W : World), W0.heap.size ≤ D → TEnd 63 69 (w.heap.size + 6) (w.heap.size + 2) M L W → Carry W0 (w.heap.size + 2) W → Below w.heap.size w W →
      W.heap[D]? = some (.deferred (some [])) → K1 { tmps := #[.pointer (some ⟨gd, 0, none⟩), .agg (qcs q).toArray, .int .i64 (M : Nat), undef, .pointer (some ⟨w.heap.size, 0, none⟩), .pointer (some ⟨w.heap.size + 1, 0, none⟩), .slice none 0 0, .bool false, .pointer (some ⟨w.heap.size + 2, 0, none⟩), .pointer (some ⟨w.heap.size + 3, 0, none⟩), .func (.func 106) #[] #[.pointer (some ⟨w.heap.size + 4, 0, none⟩), .pointer (some ⟨w.heap.size + 5, 0, none⟩)], undef, undef, undef, undef, .pointer (some ⟨gd, 0, none⟩), .agg #[.int .i64 (q.at 0), .int .i64 (q.at 1), .int .i64 (q.at 2), .int .i64 (q.at 3)], .func (.func 106) #[] #[.pointer (some ⟨w.heap.size + 4, 0, none⟩), .pointer (some ⟨w.heap.size + 5, 0, none⟩)], .func (.func 106) #[] #[.pointer (some ⟨w.heap.size + 4, 0, none⟩), .pointer (some ⟨w.heap.size + 5, 0, none⟩)], undef, undef, undef, undef, undef, undef, undef, undef, undef, undef, undef, undef, undef, undef, undef, undef, undef, undef, undef, undef, undef, undef, undef, undef, undef, undef, undef, undef, undef], defers := [{ target := .collected D, args := #[] }] } W := by
    rintro D W hD ⟨v1, hv1, hrow1⟩ hCa0 hBW hK
    have cM := hCa0.box bM (by omega)
    have cm := hCa0.box bm (by omega)
    have c1 := (hCa0.2 _ (lt_of_block b1) (by omega)).trans b1
    have c2 := (hCa0.2 _ (lt_of_block b2) (by omega)).trans b2
    have hszW := hCa0.1
    have hltD := lt_of_block hK
    refine a1 _ _ ?_
    gi_wp2
    rename_i K2 a2
    have lt1 := lt_of_block hv1
    have after2 : ∀ (D2 : Nat) (X : World), W.heap.size ≤ D2 → TEnd 63 69 W.heap.size (w.heap.size + 3) M L X → Carry W (w.heap.size + 3) X → Below w.heap.size w X → X.heap[D2]? = some (.deferred (some [])) →
        K2 { tmps := #[.pointer (some ⟨gd, 0, none⟩), .agg (qcs q).toArray, .int .i64 (M : Nat), undef, .pointer (some ⟨w.heap.size, 0, none⟩), .pointer (some ⟨w.heap.size + 1, 0, none⟩), .slice none 0 0, .bool false, .pointer (some ⟨w.heap.size + 2, 0, none⟩), .pointer (some ⟨w.heap.size + 3, 0, none⟩), .func (.func 106) #[] #[.pointer (some ⟨w.heap.size + 4, 0, none⟩), .pointer (some ⟨w.heap.size + 5, 0, none⟩)], undef, undef, undef, undef, .pointer (some ⟨gd, 0, none⟩), .agg #[.int .i64 (q.at 0), .int .i64 (q.at 1), .int .i64 (q.at 2), .int .i64 (q.at 3)], .func (.func 106) #[] #[.pointer (some ⟨w.heap.size + 4, 0, none⟩), .pointer (some ⟨w.heap.size + 5, 0, none⟩)], .func (.func 106) #[] #[.pointer (some ⟨w.heap.size + 4, 0, none⟩), .pointer (some ⟨w.heap.size + 5, 0, none⟩)], undef, undef, undef, undef, undef, undef, undef, undef, undef, undef, undef, undef, .func (.func 106) #[] #[.pointer (some ⟨w.heap.size + 4, 0, none⟩), .pointer (some ⟨w.heap.size + 5, 0, none⟩)], undef, undef, undef, undef, undef, undef, undef, undef, undef, undef, undef, undef, undef, undef, undef, undef], defers := [{ target := .collected D2, args := #[] }, { target := .collected D, args := #[] }] } X := by
      rintro D2 X hD2 ⟨v2, hv2, hrow2⟩ hCa hBX hK2
      refine a2 _ _ ?_
      refine wpIn_wide.2 ?_
      dsimp only
      have hX0 := hBX.size
      have hne : D ≠ D2 := by omega
      have hDX : X.heap[D]? = some (.deferred (some [])) := (hCa.2 D (by omega) (by omega)).trans hK
      have x1 := hCa.box hv1 (by omega)
      have r1 := hCa.row hrow1 cm (by decide)
      have hx1 := x1.cell
      have hx2 := hv2.cell
      have same := fun n => sameSeen_calls (X.drewN n) (w.heap.size + 6) W.heap.size v1 v2 (L.take M) (by simp; omega) r1 hrow2
      have R1 := Lib.hid r1
      have ND : Hid ([D2, D].Nodup) := Lib.hid (by simp; omega)
      have KD := Lib.hid hDX
      have KD2 := Lib.hid hK2
      have BX := Lib.hid hBX
      have LE1 := Lib.hid (show w.heap.size ≤ D by omega)
      have LE2 := Lib.hid (show w.heap.size ≤ D2 by omega)
      clear x1 r1 hX0 hne hDX hK hK2 hBX hCa hrow1 hrow2 hv1 hv2 cM cm c1 c2 hBW
      refine wp_seq ?_
      go_quiet ((go_at_call 30; exact (same _).mono fun _ _ ⟨he, m, hm⟩ => ⟨he, _, hm.trans (drewN_drewN X _ m)⟩))
      show Code.wp _ Code.ret Q1 _ _
      refine wp_ret ?_
      show LeavesInM Fence.wide 6 _ _ _ _ (marks [D2, D]) .returning _
      refine leavesMarks (v := .tuple #[v1, .bool true]) (fun Y => Y.ownsRow (w.heap.size + 6) 69 5 v1 (L.take M).length (sqCs (L.take M)) ∧ Below w.heap.size w Y) w.heap.size (fun Y E h hE hh => ⟨row_put h.1 hh rfl _, h.2.grown (grownBy_putObj' _ E (.deferred none)) h.2.size (fun k e => by cases e; exact hE)⟩) (fun Y _ => (results_tmp2 (t := 6) (u := 7) rfl _ _ _).trans rfl) (fun Y h => ⟨v1, rfl, ownsRow_mono h.1 (by omega), h.2⟩) [D2, D] (X.drewN nq) ND.out ?_ ⟨R1.out, below_drewN BX.out nq⟩
      intro E hE
      rcases List.mem_cons.1 hE with rfl | hE
      · exact ⟨LE2.out, KD2.out⟩
      · obtain rfl := List.mem_singleton.1 hE
        exact ⟨LE1.out, KD.out⟩
    refine wpIn_rangeFunc_ownI rfl (by omega) (gf := 106) (lb := #[.pointer (some ⟨w.heap.size + 4, 0, none⟩), .pointer (some ⟨w.heap.size + 5, 0, none⟩)]) rfl trivial (enters_of Try.func106 (by kernel_rfl) rfl)
      (HST.out W c1 c2 hBW.size (fun j hj => hBW.block j hj)) (fun h k => h.trans k) (fun X l o o' hl hl2 h1 h2 h3 => ⟨by simp, fun j o hj hs => (World.putObj_heap_other (fun e => by
          subst e
          rw [h1] at hj; cases hj
          rcases hs with (hs | hs | hs) | ⟨cs, f, hs⟩ | hs
          · omega
          · omega
          · omega
          · subst hs; cases h2
          · omega)).trans hj⟩) (Below.refl _ _) (fun x hx => by obtain ⟨y, _, rfl⟩ := List.mem_map.1 hx; rfl)
      (fun i X => TInv 63 69 (W.heap.size) (w.heap.size + 3) M L i X ∧ Carry W (w.heap.size + 3) X ∧ Below w.heap.size w X)
      (fun c i X => c = .exit 2 ∧ TOut 63 69 (W.heap.size) (w.heap.size + 3) M L i X ∧ Carry W (w.heap.size + 3) X ∧ Below w.heap.size w X)
      (fun i X Y row ⟨h1, h2, h3⟩ hg hr => ⟨TInv.ab h1 hg (fun r e => (hr r e).2), h2.abd hg (fun r e => (hr r e).1), h3.grown hg (by have := h3.size; omega) (fun r e => by have := (hr r e).1; have := hBW.size; omega)⟩)
      (fun c i X Y row ⟨h0, h1, h2, h3⟩ hg hr => ⟨h0, TOut.ab h1 hg (fun r e => (hr r e).2), h2.abd hg (fun r e => (hr r e).1), h3.grown hg (by have := h3.size; omega) (fun r e => by have := (hr r e).1; have := hBW.size; omega)⟩)
      ⟨⟨_, cm, World.ownsRow_nil _ _ _ _, Nat.zero_le _⟩, Carry.refl _ _, hBW⟩
      (axBx L ?fr2) (axBx_own _ _) ?assign2 ?body2 ?done2 ?stop2
    case assign2 =>
      intro l i hi X K hI hK
      have hiL : i < L.length := by simpa using hi
      obtain ⟨z, hz⟩ : ∃ z, z = L[i] := ⟨_, rfl⟩
      rw [List.getElem_map, ← hz]
      have HZ := Lib.hid hz
      have HI0 := Lib.hid hI
      clear hz
      unfold encT
      gi_wp2
      refine hK _ _ ((KeepsOthers.alloc _ _).from _) ⟨by simp, fun j o hj _ => (Below.heap_alloc _ _ _ (Array.getElem?_eq_some_iff.1 hj).1).trans hj⟩
        ⟨TInv.ab HI0.out.1 (grown_alloc _ _) (fun r e => by cases e), HI0.out.2.1.abd (grown_alloc _ _) (fun r e => by cases e), HI0.out.2.2.alloc HI0.out.2.2.size _⟩ ?_
      have hbx := heap_alloc_new X (.cells #[.int .i64 (z.2 0 : Nat), .int .i64 (z.2 1 : Nat), .int .i64 (z.2 2 : Nat), .int .i64 (z.2 3 : Nat)] 24)
      generalize X.heap.size = gx at hbx ⊢
      refine axBx_intro hiL HZ.out hbx ?_
      exact Eq.refl _
    case body2 =>
      rintro l i hi a' X hl ⟨r0, hr0⟩ ⟨⟨v, hv, hrow, hlM⟩, hCa, hBX⟩ ⟨hiL, gq, hgq, rfl⟩
      have hll : (L.take i).length = i := by rw [List.length_take]; omega
      have htk : L.take (i + 1) = L.take i ++ [L[i]] := List.take_succ_eq_append_getElem hiL
      obtain ⟨z, hz⟩ : ∃ z, z = L[i] := ⟨_, rfl⟩
      dsimp only
      rw [← hz] at htk hgq ⊢
      clear hz
      have hcs : sqCs (L.take (i + 1)) = sqCs (L.take i) ++ [.int .i64 (z.1 : Nat), .int .i64 (z.2 0 : Nat), .int .i64 (z.2 1 : Nat), .int .i64 (z.2 2 : Nat), .int .i64 (z.2 3 : Nat)] := by rw [htk, sqCs_snoc]; rfl
      have HCS := Lib.hid hcs
      obtain ⟨a, cp, rfl⟩ := ownsRow_slice hrow
      have d0 := hCa.box cM (by omega)
      have d1 := (hCa.2 _ (lt_of_block c1) (by omega)).trans c1
      have d2 := (hCa.2 _ (lt_of_block c2) (by omega)).trans c2
      have hc := hv.cell
      have hc0 := d0.cell
      have g0 : X.cell? ⟨gq, 0, none⟩ = some (.int .i64 (z.2 0 : Nat)) := cell_of_row X gq 0 _ _ _ hgq
      have g1 : X.cell? ⟨gq, 1, none⟩ = some (.int .i64 (z.2 1 : Nat)) := cell_of_row X gq 1 _ _ _ hgq
      have g2 : X.cell? ⟨gq, 2, none⟩ = some (.int .i64 (z.2 2 : Nat)) := cell_of_row X gq 2 _ _ _ hgq
      have g3 : X.cell? ⟨gq, 3, none⟩ = some (.int .i64 (z.2 3 : Nat)) := cell_of_row X gq 3 _ _ _ hgq
      have hszX := hBX.size
      have hszC := hCa.1
      have hzV := hBW.size
      have D1 := Lib.hid d1
      have D2 := Lib.hid d2
      have HROW := Lib.hid hrow
      have HV := Lib.hid hv
      have HCA := Lib.hid hCa
      have HBX := Lib.hid hBX
      clear d0 d1 d2 hCa hBX hrow hv hr0 htk hcs hgq
      by_cases hML : i = M
      · have e1 : decide (M ≤ i) = true := decide_eq_true (by omega)
        have hfin : TOut 63 69 (W.heap.size) (w.heap.size + 3) M L (i + 1) X := ⟨_, HV.out, by rw [← hML]; exact HROW.out, by rw [hML]⟩
        have HF := Lib.hid hfin
        clear hfin hML
        gi_wp2
        exact ⟨KeepsFrom.refl _ _, rfl, HF.out, HCA.out, HBX.out⟩
      · have e1 : decide (M ≤ i) = false := decide_eq_false (by omega)
        have hLp : i < 4194400 := by omega
        gi_wp2_with (gi_at_builtin; refine wpListIn_append_own _ rfl _ _ 63 rfl (W.heap.size) 69 i0 (.agg #[.int .i64 0, .int .i64 0, .int .i64 0, .int .i64 0, .int .i64 0]) 5 40 Try.underlying63 HI.out HZ0.out HZ1.out HZ2.out rfl (by decide) _ _ _ rfl (HROW.out.alloc _) ⟨X.heap.size, 0, none⟩ 1 1 [.int .i64 (z.1 : Nat), .int .i64 (z.2 0 : Nat), .int .i64 (z.2 1 : Nat), .int .i64 (z.2 2 : Nat), .int .i64 (z.2 3 : Nat)] rfl rfl (cells_new _ _ _) (by simp [Value.oneCell']) (by unfold maxLen; omega) (by omega) (by simp; omega) ?_; intro v' w1 hown' hgrow _; obtain ⟨g', cap', rfl⟩ := ownsRow_succ hown'; obtain ⟨hv1, hv2, hr2, hk2, hb2, _, hb3⟩ := boxed_app (n₁ := w.heap.size) HV.out (by decide) HROW.out (by omega) (by omega) (by omega) hown' hgrow; have hc1 := hv1.cell; have hf1 := hv1.frozen; (have HV2 := Lib.hid hv2); (have HR2 := Lib.hid hr2); (have HK2 := Lib.hid hk2); (have HB2 := Lib.hid hb2); (have HB3 := Lib.hid hb3); (have HAK := Lib.hid (app_keeps (Q := QoW) (v' := .slice (some ⟨g', 0, none⟩) (i + 1) cap') HV.out qow_box qow_row HROW.out hgrow)); clear hv1 hv2 hr2 hk2 hb2 hb3 hown' hgrow)
        refine ⟨HK2.out.from _, ⟨HK2.out.size, fun j o ho hs => ?_⟩, ⟨_, HV2.out, ?_, by omega⟩, ⟨Nat.le_trans hszC HK2.out.size, fun j hj hjB => (HB3.out j (by omega) (by omega) hjB).trans (HCA.out.2 j hj hjB)⟩, HBX.out.trans HB2.out⟩
        · rcases hs with (hs | hs | hs) | hs | hs
          · exact (HB3.out j (by omega) (by omega) (by omega)).trans ho
          · have hjX := (Array.getElem?_eq_some_iff.1 ho).1
            exact (HB3.out j (by omega) hjX (by omega)).trans ho
          · have hjX := (Array.getElem?_eq_some_iff.1 ho).1
            exact (HB3.out j (by omega) hjX (by omega)).trans ho
          · exact HAK.out _ _ ho (.inl hs)
          · exact HAK.out _ _ ho (.inr hs.2)
        · rw [HCS.out]
          exact HR2.out
    case done2 =>
      rintro D2 X hD2 ⟨hI, hCa, hBX⟩ hK
      rw [List.length_map] at hI
      exact after2 D2 X hD2 hI.fin hCa hBX hK
    case stop2 =>
      rintro D2 c i X hD2 hi ⟨rfl, hO, hCa, hBX⟩ hK
      rw [List.length_map] at hi
      gi_wp2
      exact after2 D2 X hD2 (hO.fin hi) hCa hBX hK

  refine wpIn_rangeFunc_ownI rfl (by omega) (gf := 106) (lb := #[.pointer (some ⟨w.heap.size + 4, 0, none⟩), .pointer (some ⟨w.heap.size + 5, 0, none⟩)]) rfl trivial (enters_of Try.func106 (by kernel_rfl) rfl)
    (HST.out W0 b1 b2 hB.size (fun j hj => hB.block j hj)) (fun h k => h.trans k) (fun X l o o' hl hl2 h1 h2 h3 => ⟨by simp, fun j o hj hs => (World.putObj_heap_other (fun e => by
        subst e
        rw [h1] at hj; cases hj
        rcases hs with (hs | hs | hs) | ⟨cs, f, hs⟩ | hs
        · omega
        · omega
        · omega
        · subst hs; cases h2
        · omega)).trans hj⟩) (Below.refl _ _) (fun x hx => by obtain ⟨y, _, rfl⟩ := List.mem_map.1 hx; rfl)
    (fun i X => TInv 63 69 (w.heap.size + 6) (w.heap.size + 2) M L i X ∧ Carry W0 (w.heap.size + 2) X ∧ Below w.heap.size w X)
    (fun c i X => c = .exit 0 ∧ TOut 63 69 (w.heap.size + 6) (w.heap.size + 2) M L i X ∧ Carry W0 (w.heap.size + 2) X ∧ Below w.heap.size w X)
    (fun i X Y row ⟨h1, h2, h3⟩ hg hr => ⟨TInv.ab h1 hg (fun r e => (hr r e).2), h2.abd hg (fun r e => (hr r e).1), h3.grown hg (by have := h3.size; omega) (fun r e => by have := (hr r e).1; have := hB.size; omega)⟩)
    (fun c i X Y row ⟨h0, h1, h2, h3⟩ hg hr => ⟨h0, TOut.ab h1 hg (fun r e => (hr r e).2), h2.abd hg (fun r e => (hr r e).1), h3.grown hg (by have := h3.size; omega) (fun r e => by have := (hr r e).1; have := hB.size; omega)⟩)
    ⟨⟨_, bl, World.ownsRow_nil _ _ _ _, Nat.zero_le _⟩, Carry.refl _ _, hB⟩
    (axBx L ?fr1) (axBx_own _ _) ?assign1 ?body1 ?done1 ?stop1
  case assign1 =>
    intro l i hi X K hI hK
    have hiL : i < L.length := by simpa using hi
    obtain ⟨z, hz⟩ : ∃ z, z = L[i] := ⟨_, rfl⟩
    rw [List.getElem_map, ← hz]
    have HZ := Lib.hid hz
    have HI0 := Lib.hid hI
    clear hz
    unfold encT
    gi_wp2
    refine hK _ _ ((KeepsOthers.alloc _ _).from _) ⟨by simp, fun j o hj _ => (Below.heap_alloc _ _ _ (Array.getElem?_eq_some_iff.1 hj).1).trans hj⟩
      ⟨TInv.ab HI0.out.1 (grown_alloc _ _) (fun r e => by cases e), HI0.out.2.1.abd (grown_alloc _ _) (fun r e => by cases e), HI0.out.2.2.alloc HI0.out.2.2.size _⟩ ?_
    have hbx := heap_alloc_new X (.cells #[.int .i64 (z.2 0 : Nat), .int .i64 (z.2 1 : Nat), .int .i64 (z.2 2 : Nat), .int .i64 (z.2 3 : Nat)] 24)
    generalize X.heap.size = gx at hbx ⊢
    refine axBx_intro hiL HZ.out hbx ?_
    exact Eq.refl _
  case body1 =>
    rintro l i hi a' X hl ⟨r0, hr0⟩ ⟨⟨v, hv, hrow, hlM⟩, hCa, hBX⟩ ⟨hiL, gq, hgq, rfl⟩
    have hll : (L.take i).length = i := by rw [List.length_take]; omega
    have htk : L.take (i + 1) = L.take i ++ [L[i]] := List.take_succ_eq_append_getElem hiL
    obtain ⟨z, hz⟩ : ∃ z, z = L[i] := ⟨_, rfl⟩
    dsimp only
    rw [← hz] at htk hgq ⊢
    clear hz
    have hcs : sqCs (L.take (i + 1)) = sqCs (L.take i) ++ [.int .i64 (z.1 : Nat), .int .i64 (z.2 0 : Nat), .int .i64 (z.2 1 : Nat), .int .i64 (z.2 2 : Nat), .int .i64 (z.2 3 : Nat)] := by rw [htk, sqCs_snoc]; rfl
    have HCS := Lib.hid hcs
    obtain ⟨a, cp, rfl⟩ := ownsRow_slice hrow
    have d0 := hCa.box bM (by omega)
    have d1 := (hCa.2 _ (lt_of_block b1) (by omega)).trans b1
    have d2 := (hCa.2 _ (lt_of_block b2) (by omega)).trans b2
    have hc := hv.cell
    have hc0 := d0.cell
    have g0 : X.cell? ⟨gq, 0, none⟩ = some (.int .i64 (z.2 0 : Nat)) := cell_of_row X gq 0 _ _ _ hgq
    have g1 : X.cell? ⟨gq, 1, none⟩ = some (.int .i64 (z.2 1 : Nat)) := cell_of_row X gq 1 _ _ _ hgq
    have g2 : X.cell? ⟨gq, 2, none⟩ = some (.int .i64 (z.2 2 : Nat)) := cell_of_row X gq 2 _ _ _ hgq
    have g3 : X.cell? ⟨gq, 3, none⟩ = some (.int .i64 (z.2 3 : Nat)) := cell_of_row X gq 3 _ _ _ hgq
    have hszX := hBX.size
    have hszC := hCa.1
    have hzV := hB.size
    have D1 := Lib.hid d1
    have D2 := Lib.hid d2
    have HROW := Lib.hid hrow
    have HV := Lib.hid hv
    have HCA := Lib.hid hCa
    have HBX := Lib.hid hBX
    clear d0 d1 d2 hCa hBX hrow hv hr0 htk hcs hgq
    by_cases hML : i = M
    · have e1 : decide (M ≤ i) = true := decide_eq_true (by omega)
      have hfin : TOut 63 69 (w.heap.size + 6) (w.heap.size + 2) M L (i + 1) X := ⟨_, HV.out, by rw [← hML]; exact HROW.out, by rw [hML]⟩
      have HF := Lib.hid hfin
      clear hfin hML
      gi_wp2
      exact ⟨KeepsFrom.refl _ _, rfl, HF.out, HCA.out, HBX.out⟩
    · have e1 : decide (M ≤ i) = false := decide_eq_false (by omega)
      have hLp : i < 4194400 := by omega
      gi_wp2_with (gi_at_builtin; refine wpListIn_append_own _ rfl _ _ 63 rfl (w.heap.size + 6) 69 i0 (.agg #[.int .i64 0, .int .i64 0, .int .i64 0, .int .i64 0, .int .i64 0]) 5 40 Try.underlying63 HI.out HZ0.out HZ1.out HZ2.out rfl (by decide) _ _ _ rfl (HROW.out.alloc _) ⟨X.heap.size, 0, none⟩ 1 1 [.int .i64 (z.1 : Nat), .int .i64 (z.2 0 : Nat), .int .i64 (z.2 1 : Nat), .int .i64 (z.2 2 : Nat), .int .i64 (z.2 3 : Nat)] rfl rfl (cells_new _ _ _) (by simp [Value.oneCell']) (by unfold maxLen; omega) (by omega) (by simp; omega) ?_; intro v' w1 hown' hgrow _; obtain ⟨g', cap', rfl⟩ := ownsRow_succ hown'; obtain ⟨hv1, hv2, hr2, hk2, hb2, _, hb3⟩ := boxed_app (n₁ := w.heap.size) HV.out (by decide) HROW.out (by omega) (by omega) (by omega) hown' hgrow; have hc1 := hv1.cell; have hf1 := hv1.frozen; (have HV2 := Lib.hid hv2); (have HR2 := Lib.hid hr2); (have HK2 := Lib.hid hk2); (have HB2 := Lib.hid hb2); (have HB3 := Lib.hid hb3); (have HAK := Lib.hid (app_keeps (Q := QoW) (v' := .slice (some ⟨g', 0, none⟩) (i + 1) cap') HV.out qow_box qow_row HROW.out hgrow)); clear hv1 hv2 hr2 hk2 hb2 hb3 hown' hgrow)
      refine ⟨HK2.out.from _, ⟨HK2.out.size, fun j o ho hs => ?_⟩, ⟨_, HV2.out, ?_, by omega⟩, ⟨Nat.le_trans hszC HK2.out.size, fun j hj hjB => (HB3.out j (by omega) (by omega) hjB).trans (HCA.out.2 j hj hjB)⟩, HBX.out.trans HB2.out⟩
      · rcases hs with (hs | hs | hs) | hs | hs
        · exact (HB3.out j (by omega) (by omega) (by omega)).trans ho
        · have hjX := (Array.getElem?_eq_some_iff.1 ho).1
          exact (HB3.out j (by omega) hjX (by omega)).trans ho
        · have hjX := (Array.getElem?_eq_some_iff.1 ho).1
          exact (HB3.out j (by omega) hjX (by omega)).trans ho
        · exact HAK.out _ _ ho (.inl hs)
        · exact HAK.out _ _ ho (.inr hs.2)
      · rw [HCS.out]
        exact HR2.out
  case done1 =>
    rintro D1 X hD1 ⟨hI, hCa, hBX⟩ hK
    rw [List.length_map] at hI
    exact after D1 X hD1 hI.fin hCa hBX hK
  case stop1 =>
    rintro D1 c i X hD1 hi ⟨rfl, hO, hCa, hBX⟩ hK
    rw [List.length_map] at hi
    gi_wp2
    exact after D1 X hD1 (hO.fin hi) hCa hBX hK

end Go.Proofs.Ytgajpekolamjbaa
/- Count of a built tree; what walked and matched gather there. Plain. -/
namespace Go.Proofs.Ytgajpekolamjbaa
open Go.RowKit Go.Tk
/-- The places whose quads agree. -/
def agS (L : List Qd) (p : Qd) (N : Nat) : List Nat := (seg 0 N).filter fun t => agK p (qAt L t) 4
theorem agK_iff (p q : Qd) : ∀ k, agK p q k = true ↔ ∀ i, i < k → agN p q i = true
  | 0 => by simp [agK]
  | k + 1 => by
    simp only [agK, Bool.and_eq_true]
    rw [agK_iff p q k]
    constructor
    · rintro ⟨h1, h2⟩ i hi
      by_cases e : i = k
      · rw [e]; exact h2
      · exact h1 i (by omega)
    · intro h
      exact ⟨fun i hi => h i (by omega), h k (by omega)⟩
theorem wdF_free (p : Qd) : ∀ k j, wdF p k ≤ j → j < k → p.at j < 0
  | 0, j, _, h => by omega
  | k + 1, j, h1, h2 => by
    simp only [wdF] at h1
    by_cases hk : p.at k < 0
    · rw [if_pos hk] at h1
      by_cases e : j = k
      · rw [e]; exact hk
      · exact wdF_free p k j h1 (by omega)
    · rw [if_neg hk] at h1; omega
theorem filter_rg {N C E : Nat} (hC : C ≤ E) (hE : E ≤ N) (f : Nat → Bool) (h : ∀ t, t < N → (f t = true ↔ C ≤ t ∧ t < E)) : ((seg 0 N).filter f).length = E - C := by
  rw [seg_app (show 0 ≤ C by omega) (show C ≤ N by omega), seg_app hC hE, List.filter_append, List.filter_append]
  have n1 : (seg 0 C).filter f = [] := List.filter_eq_nil_iff.2 fun t ht => by
    have := seg_mem.1 ht
    intro hf; have := (h t (by omega)).1 hf; omega
  have n3 : (seg E N).filter f = [] := List.filter_eq_nil_iff.2 fun t ht => by
    have := seg_mem.1 ht
    intro hf; have := (h t (by omega)).1 hf; omega
  have n2 : (seg C E).filter f = seg C E := List.filter_eq_self.2 fun t ht => by
    have := seg_mem.1 ht
    exact (h t (by omega)).2 (by omega)
  rw [n1, n2, n3]
  simp [seg]
section
variable {b : List UInt8} {L : List Qd}
theorem Blt.ct (B : Blt b L) (p : Qd) : ∀ (f j A D : Nat), j + f = wdF p 4 → (f = 0 → j = 0) → Rg L j A D → (∀ t, t < L.length → ((∀ i, i < j → agN p (qAt L t) i = true) ↔ A ≤ t ∧ t < D)) →
    ctS b p f j (posL L j A) (posL L j D) = (agS L p L.length).length
  | 0, j, A, D, hj, h0, hR, hag => by
    have hN := B.n 3 (by omega)
    rw [posL_three B.right _ (Nat.le_refl _)] at hN
    simp only [ctS]
    have hw : wdF p 4 = 0 := by have := h0 rfl; omega
    unfold agS
    rw [hN, filter_rg (C := 0) (E := L.length) (by omega) (Nat.le_refl _) _ (fun t ht => ⟨fun _ => ⟨by omega, ht⟩, fun _ => (agK_iff _ _ 4).2 fun i hi => agN_free (wdF_free p 4 i (by omega) hi) _⟩)]
    rfl
  | f + 1, j, A, D, hj, h0, hR, hag => by
    have hw4 := wdF_le p 4
    have hj4 : j < 4 := by omega
    have R := B.right
    by_cases hv : p.at j < 0
    · simp only [ctS]
      rw [if_pos hv]
      have := congrArg List.length (B.match p)
      simp only [List.length_map] at this
      exact this
    · obtain ⟨C, c1, c2, c3, c4, c5⟩ := hR.cut R (p.at j)
      have hmn : min (posL L j D) (tN b j) = posL L j D := by rw [B.n j hj4]; have := posL_mono L j hR.bn; omega
      have hml : min (posL L j A) (posL L j D) = posL L j A := by have := posL_mono L j hR.ab; omega
      have hsr := B.sr hj4 c1 c2 hR.bn (p.at j) c4 c5
      rw [ct_step b p f j (posL L j A) (posL L j D) (posL L j D) (posL L j C) hmn.symm (by rw [hml, hsr]) hv]
      have none : (∀ t, A ≤ t → t < D → (qAt L t).at j ≠ p.at j) → (agS L p L.length).length = 0 := fun hn => by
        unfold agS
        rw [filter_rg (C := 0) (E := 0) (Nat.le_refl _) (by omega) _ (fun t ht => ⟨fun h => by
          have h4 := (agK_iff _ _ 4).1 h
          have h5 := (hag t ht).1 (fun i hi => h4 i (by omega))
          have h6 := h4 j hj4
          rw [agN_fix (by omega)] at h6
          exact absurd (of_decide_eq_true h6).symm (hn t h5.1 h5.2), fun h => by omega⟩)]
      rcases Nat.eq_or_lt_of_le c2 with rfl | hCD
      · rw [if_pos (.inl (Nat.le_refl _)), none (fun t h1 h2 => by have := c4 t h1 h2; omega)]
      · have hfC := hR.begin hCD c3
        have hnum := B.numB hj4 (show C < L.length by have := hR.bn; omega) hfC
        have hpl : posL L j C < posL L j D := by have := posL_yes (L := L) hfC; have := posL_mono L j (show C + 1 ≤ D by omega); omega
        by_cases hne : (qAt L C).at j = p.at j
        · rw [if_neg (by rw [hnum]; rintro (h | h); · omega
                         · exact h hne)]
          obtain ⟨E, e1, e2, e3, e4⟩ := hR.next c1 hCD
          have hbl := hR.below c1 e1 e2 c3 e3 e4
          have hag2 : ∀ t, t < L.length → ((∀ i, i < j + 1 → agN p (qAt L t) i = true) ↔ C ≤ t ∧ t < E) := fun t ht => by
            constructor
            · intro h
              have h5 := (hag t ht).1 (fun i hi => h i (by omega))
              have h6 := h j (by omega)
              rw [agN_fix (by omega)] at h6
              have h7 := of_decide_eq_true h6
              refine ⟨Decidable.byContradiction fun hC => ?_, Decidable.byContradiction fun hE => ?_⟩
              · have := c4 t h5.1 (by omega); omega
              · have hup := hR.up R c1 e1 (hR.begin (show E < D by omega) e3) (show E ≤ t by omega) h5.2
                omega
            · rintro ⟨h1, h2⟩ i hi
              by_cases hij : i = j
              · subst hij
                rw [agN_fix (by omega), decide_eq_true]
                rw [← hne]; exact (hbl.eq (show i < i + 1 by omega) h1 h2).symm
              · exact (hag t ht).2 ⟨by omega, by omega⟩ i (by omega)
          by_cases hj3 : j = 3
          · rw [if_pos hj3]
            unfold agS
            have hE : E = C + 1 := by
              refine Decidable.byContradiction fun hne => e4 (C + 1) (by omega) (by omega) ?_
              have := R.fK_lt (i := C + 1) (by have := hR.bn; omega); omega
            rw [filter_rg (C := C) (E := E) (by omega) (by have := hR.bn; omega) _ (fun t ht => by rw [agK_iff]; rw [hj3] at hag2; exact hag2 t ht)]
            omega
          · rw [if_neg hj3]
            by_cases hf0 : f = 0
            · rw [if_pos hf0]
              have hpE : posL L j C + 1 = posL L j E := by rw [posL_flat L j (Nat.le_of_lt e1) e4 e1, posL_yes hfC]
              rw [hpE, B.stk hj4 (by have := hR.bn; omega) e3, B.stk hj4 (by have := hR.bn; omega) c3]
              unfold agS
              rw [filter_rg (C := C) (E := E) (by omega) (by have := hR.bn; omega) _ (fun t ht => by
                rw [agK_iff, ← hag2 t ht]
                constructor
                · intro h i hi; exact h i (by omega)
                · intro h i hi
                  by_cases hij : i < j + 1
                  · exact h i hij
                  · exact agN_free (wdF_free p 4 i (by omega) hi) _)]
            · rw [if_neg hf0, B.chl (by omega) (by have := hR.bn; omega) c3, B.chh (by omega) e1 (by have := hR.bn; omega) hfC e3 e4]
              exact Blt.ct B p f (j + 1) C E (by omega) (fun h => absurd h hf0) hbl hag2
        · rw [if_pos (.inr (by rw [hnum]; exact hne)), none (fun t h1 h2 => by
            intro he
            by_cases hC : t < C
            · have := c4 t h1 hC; omega
            · have h3 := c5 C (Nat.le_refl _) hCD
              have h4 := hR.mono R c1 (show C ≤ t by omega) h2
              omega)]
/-- Count. -/
theorem Blt.count (B : Blt b L) (p : Qd) : countT b p = (agS L p L.length).length := by
  unfold countT
  rw [B.n 0 (by omega)]
  exact B.ct p (wdF p 4) 0 0 L.length (by omega) (fun _ => rfl) (Rg.all L) (fun t ht => ⟨fun _ => ⟨by omega, ht⟩, fun _ i hi => by omega⟩)
/-- A quad and its number, in natural numbers. -/
def qW (L : List Qd) (t : Nat) : Nat × (Nat → Nat) := (t, fun j => ((qAt L t).at j).toNat)
theorem encT_sq {x y : Nat × (Nat → Nat)} (h : encT x = encT y) : sqC x = sqC y := by
  unfold encT at h
  injection h with h
  injection h with h1 h2
  injection h2 with h2 _
  injection h2 with h2
  injection h2 with h2
  injection h2 with a0 h2
  injection h2 with a1 h2
  injection h2 with a2 h2
  injection h2 with a3 _
  unfold sqC
  rw [h1, a0, a1, a2, a3]
theorem sq_map : ∀ {G H : List (Nat × (Nat → Nat))}, G.map encT = H.map encT → sqCs G = sqCs H
  | [], [], _ => rfl
  | [], _ :: _, h => by simp at h
  | _ :: _, [], h => by simp at h
  | x :: G, y :: H, h => by
    simp only [List.map_cons, List.cons.injEq] at h
    have e : ∀ (z : Nat × (Nat → Nat)) Z, sqCs (z :: Z) = sqC z ++ sqCs Z := fun z Z => by simp [sqCs]
    rw [e, e, encT_sq h.1, sq_map h.2]
theorem encQ_W {L : List Qd} (R : Right L) {t : Nat} (ht : t < L.length) : encT (qW L t) = encQ L t :=
  encT_eq fun j _ => by
    have := (okQ_at (R.ok t ht) j).1
    show ((((qAt L t).at j).toNat : Nat) : Int) = _
    have : 0 ≤ (qAt L t).at j := this
    omega
/-- What is gathered of quads that are gone through. -/
theorem take_sq {L : List Qd} (R : Right L) {G : List (Nat × (Nat → Nat))} {ts : List Nat} (hts : ∀ t ∈ ts, t < L.length) (h : G.map encT = ts.map (encQ L)) (M : Nat) :
    (G.take M).length = ((ts.take M).map (qW L)).length ∧ sqCs (G.take M) = sqCs ((ts.take M).map (qW L)) := by
  have e : (G.take M).map encT = ((ts.take M).map (qW L)).map encT := by
    rw [List.map_take, h, ← List.map_take, List.map_map]
    refine List.map_congr_left fun t ht => ?_
    exact (encQ_W R (hts t (List.mem_of_mem_take ht))).symm
  exact ⟨by have := congrArg List.length e; simpa using this, sq_map e⟩
end
end Go.Proofs.Ytgajpekolamjbaa
