/- BitsReads: what holds at each round's head. -/
import Derived.Test.YtgkbkkhlnidigaaBitsRd5
import Derived.Test.YtgkbkkhlnidigaaBitsWrites
namespace Go.Proofs.Ytgkbkkhlnidigaa
open Go.RowKit Go.Tk
def N4 (p1 p2 q1 q2 k : Nat) : Prop := k ≠ p1 ∧ k ≠ p2 ∧ k ≠ q1 ∧ k ≠ q2
/-- What the two pairs of cursors are over. -/
structure RdV where
  g7 : Nat
  g8 : Nat
  g9 : Nat
  p1 : Nat
  p2 : Nat
  q1 : Nat
  q2 : Nat
  va : Option Addr
  vc : Nat
  vb : Option Addr
  vd : Nat
  xa : Option Addr
  xc : Nat
  ya : Option Addr
  yc : Nat
  za : List Int
  zb : List Int
structure RdI (W : World) (V : RdV) (w : World) (i1 : Nat) (e1 : Int) (i2 : Nat) (e2 : Int) : Prop where
  A : CP w V.p1 V.q1 V.va V.vc V.xa V.xc V.za i1 e1
  B : CP w V.p2 V.q2 V.vb V.vd V.ya V.yc V.zb i2 e2
  O : w.heap[V.g7]? = some (.cells #[.slice V.va (V.za.length + 2) V.vc, .slice V.vb (V.zb.length + 2) V.vd] 57 (0, 0))
  G : w.heap[V.g8]? = some (.cells #[.pointer (some ⟨V.p1, 0, none⟩), .pointer (some ⟨V.p2, 0, none⟩)] 60 (0, 0))
  K : w.heap[V.g9]? = some (.cells #[.pointer (some ⟨V.q1, 0, none⟩), .pointer (some ⟨V.q2, 0, none⟩)] 64 (0, 0))
  o1 : Ow .u8 5 W.heap.size w (.slice V.va (V.za.length + 2) V.vc) (V.za ++ [3, 3])
  o2 : Ow .u8 5 W.heap.size w (.slice V.vb (V.zb.length + 2) V.vd) (V.zb ++ [4, 4])
  bel : Below W.heap.size W w
  n7 : N4 V.p1 V.p2 V.q1 V.q2 V.g7
  n8 : N4 V.p1 V.p2 V.q1 V.q2 V.g8
  n9 : N4 V.p1 V.p2 V.q1 V.q2 V.g9
  na : ∀ x, V.va = some x → N4 V.p1 V.p2 V.q1 V.q2 x.block
  nb : ∀ x, V.vb = some x → N4 V.p1 V.p2 V.q1 V.q2 x.block
  nx : ∀ x, V.xa = some x → x.block < W.heap.size
  ny : ∀ x, V.ya = some x → x.block < W.heap.size
  lo : W.heap.size ≤ V.p1 ∧ W.heap.size ≤ V.p2 ∧ W.heap.size ≤ V.q1 ∧ W.heap.size ≤ V.q2
  d : V.p1 ≠ V.p2 ∧ V.p1 ≠ V.q2 ∧ V.q1 ≠ V.p2 ∧ V.q1 ≠ V.q2
theorem _root_.Go.Tk.Kept.lt_some {S : Nat → Prop} {a b : World} (h : Kept S a b) {k : Nat} {o : Obj} (hk : a.heap[k]? = some o) (hs : ¬ S k) : b.heap[k]? = some o := (h.block k (Array.getElem?_eq_some_iff.1 hk).1 hs).trans hk
theorem own_some {a : Option Addr} {n c g : Nat} (h : (Value.slice a n c).ownBlock = some g) : ∃ x, a = some x ∧ x.block = g := ownBlock_eq rfl h
theorem RdI.one {W : World} {V : RdV} {w : World} {i1 : Nat} {e1 : Int} {i2 : Nat} {e2 : Int} (h : RdI W V w i1 e1 i2 e2) {i : Nat} {e : Int} {e' : Ending} {w' : World} (hr : ReadP w V.p1 V.q1 V.va V.vc V.xa V.xc V.za i e e' w') : e' = .returned (.bool true) ∧ RdI W V w' i e i2 e2 := by
  obtain ⟨rfl, hP, hK⟩ := hr
  have hd := h.d
  have hlo := h.lo
  refine ⟨rfl, hP, h.B.kept hK ?_ ?_ ?_ ?_, hK.lt_some h.O ?_, hK.lt_some h.G ?_, hK.lt_some h.K ?_, h.o1.kept2 hK ?_, h.o2.kept2 hK ?_, h.bel.trans (hK.below h.bel.size ?_), h.n7, h.n8, h.n9, h.na, h.nb, h.nx, h.ny, h.lo, h.d⟩
  · rintro (hf | hf) <;> omega
  · rintro (hf | hf) <;> omega
  · intro x hx; have := h.nb x hx; unfold N4 at this; rintro (hf | hf) <;> omega
  · intro x hx; have := h.ny x hx; rintro (hf | hf) <;> omega
  · have := h.n7; unfold N4 at this; rintro (hf | hf) <;> omega
  · have := h.n8; unfold N4 at this; rintro (hf | hf) <;> omega
  · have := h.n9; unfold N4 at this; rintro (hf | hf) <;> omega
  · intro g hg; obtain ⟨x, hx, rfl⟩ := own_some hg; have := h.na x hx; unfold N4 at this; rintro (hf | hf) <;> omega
  · intro g hg; obtain ⟨x, hx, rfl⟩ := own_some hg; have := h.nb x hx; unfold N4 at this; rintro (hf | hf) <;> omega
  · rintro k (hf | hf) <;> omega
theorem RdI.two {W : World} {V : RdV} {w : World} {i1 : Nat} {e1 : Int} {i2 : Nat} {e2 : Int} (h : RdI W V w i1 e1 i2 e2) {i : Nat} {e : Int} {e' : Ending} {w' : World} (hr : ReadP w V.p2 V.q2 V.vb V.vd V.ya V.yc V.zb i e e' w') : e' = .returned (.bool true) ∧ RdI W V w' i1 e1 i e := by
  obtain ⟨rfl, hP, hK⟩ := hr
  have hd := h.d
  have hlo := h.lo
  refine ⟨rfl, h.A.kept hK ?_ ?_ ?_ ?_, hP, hK.lt_some h.O ?_, hK.lt_some h.G ?_, hK.lt_some h.K ?_, h.o1.kept2 hK ?_, h.o2.kept2 hK ?_, h.bel.trans (hK.below h.bel.size ?_), h.n7, h.n8, h.n9, h.na, h.nb, h.nx, h.ny, h.lo, h.d⟩
  · rintro (hf | hf) <;> omega
  · rintro (hf | hf) <;> omega
  · intro x hx; have := h.na x hx; unfold N4 at this; rintro (hf | hf) <;> omega
  · intro x hx; have := h.nx x hx; rintro (hf | hf) <;> omega
  · have := h.n7; unfold N4 at this; rintro (hf | hf) <;> omega
  · have := h.n8; unfold N4 at this; rintro (hf | hf) <;> omega
  · have := h.n9; unfold N4 at this; rintro (hf | hf) <;> omega
  · intro g hg; obtain ⟨x, hx, rfl⟩ := own_some hg; have := h.na x hx; unfold N4 at this; rintro (hf | hf) <;> omega
  · intro g hg; obtain ⟨x, hx, rfl⟩ := own_some hg; have := h.nb x hx; unfold N4 at this; rintro (hf | hf) <;> omega
  · rintro k (hf | hf) <;> omega
theorem RdI.drewN {W : World} {V : RdV} {w : World} {i1 : Nat} {e1 : Int} {i2 : Nat} {e2 : Int} (h : RdI W V w i1 e1 i2 e2) (n : Nat) : RdI W V (w.drewN n) i1 e1 i2 e2 :=
  ⟨h.A.drewN n, h.B.drewN n, h.O, h.G, h.K, h.o1.drewN n, h.o2.drewN n, below_drewN h.bel n, h.n7, h.n8, h.n9, h.na, h.nb, h.nx, h.ny, h.lo, h.d⟩
/-- Whatever turns nothing that is old. -/
theorem RdI.keep {W : World} {V : RdV} {w w' : World} {i1 : Nat} {e1 : Int} {i2 : Nat} {e2 : Int} (h : RdI W V w i1 e1 i2 e2) (hK : Kept (fun _ => False) w w') : RdI W V w' i1 e1 i2 e2 :=
  ⟨h.A.kept hK id id (fun _ _ => id) (fun _ _ => id), h.B.kept hK id id (fun _ _ => id) (fun _ _ => id), hK.lt_some h.O id, hK.lt_some h.G id, hK.lt_some h.K id, h.o1.kept2 hK (fun _ _ => id), h.o2.kept2 hK (fun _ _ => id), h.bel.trans (hK.below h.bel.size (fun _ h => h.elim)), h.n7, h.n8, h.n9, h.na, h.nb, h.nx, h.ny, h.lo, h.d⟩
/-- The numbers that the head of a round tells. -/
structure RdN (W : World) (V : RdV) (w : World) (i1 : Nat) (e1 : Int) (i2 : Nat) (e2 : Int) : Prop where
  a0 : w.cell? ⟨V.g8, 0, none⟩ = some (.pointer (some ⟨V.p1, 0, none⟩))
  a1 : w.cell? ⟨V.g8, 1, none⟩ = some (.pointer (some ⟨V.p2, 0, none⟩))
  b0 : w.cell? ⟨V.g9, 0, none⟩ = some (.pointer (some ⟨V.q1, 0, none⟩))
  b1 : w.cell? ⟨V.g9, 1, none⟩ = some (.pointer (some ⟨V.q2, 0, none⟩))
  c0 : w.cell? ⟨V.g7, 0, none⟩ = some (.slice V.va (V.za.length + 2) V.vc)
  c1 : w.cell? ⟨V.g7, 1, none⟩ = some (.slice V.vb (V.zb.length + 2) V.vd)
theorem RdI.cells {W : World} {V : RdV} {w : World} {i1 : Nat} {e1 : Int} {i2 : Nat} {e2 : Int} (h : RdI W V w i1 e1 i2 e2) : RdN W V w i1 e1 i2 e2 :=
  ⟨by rw [cell_of_row w _ 0 _ _ _ h.G]; rfl, by rw [cell_of_row w _ 1 _ _ _ h.G]; rfl, by rw [cell_of_row w _ 0 _ _ _ h.K]; rfl, by rw [cell_of_row w _ 1 _ _ _ h.K]; rfl, by rw [cell_of_row w _ 0 _ _ _ h.O]; rfl, by rw [cell_of_row w _ 1 _ _ _ h.O]; rfl⟩
section
variable {W : World} {g7 g8 g9 p1 p2 q1 q2 : Nat} {va : Option Addr} {vc : Nat} {vb : Option Addr} {vd : Nat} {xa : Option Addr} {xc : Nat} {ya : Option Addr} {yc : Nat} {za zb : List Int} {w : World} {i1 : Nat} {e1 : Int} {i2 : Nat} {e2 : Int}
theorem RdI.six (h : RdI W ⟨g7, g8, g9, p1, p2, q1, q2, va, vc, vb, vd, xa, xc, ya, yc, za, zb⟩ w i1 e1 i2 e2) :
    w.cell? ⟨g8, 0, none⟩ = some (.pointer (some ⟨p1, 0, none⟩)) ∧ w.cell? ⟨g8, 1, none⟩ = some (.pointer (some ⟨p2, 0, none⟩)) ∧ w.cell? ⟨g9, 0, none⟩ = some (.pointer (some ⟨q1, 0, none⟩)) ∧ w.cell? ⟨g9, 1, none⟩ = some (.pointer (some ⟨q2, 0, none⟩)) ∧
    w.cell? ⟨g7, 0, none⟩ = some (.slice va (za.length + 2) vc) ∧ w.cell? ⟨g7, 1, none⟩ = some (.slice vb (zb.length + 2) vd) := ⟨h.cells.a0, h.cells.a1, h.cells.b0, h.cells.b1, h.cells.c0, h.cells.c1⟩
theorem RdI.endA (h : RdI W ⟨g7, g8, g9, p1, p2, q1, q2, va, vc, vb, vd, xa, xc, ya, yc, za, zb⟩ w i1 e1 i2 e2) :
    Calls Try.prog 28 #[.pointer (some ⟨p1, 0, none⟩)] w fun e' w' => e' = .returned (.int .i64 (endE za.length i1 e1)) ∧ RdI W ⟨g7, g8, g9, p1, p2, q1, q2, va, vc, vb, vd, xa, xc, ya, yc, za, zb⟩ w' i1 e1 i2 e2 :=
  (end_calls w p1 _ _ za i1 e1 h.A.C).mono fun _ _ ⟨he, n, hw⟩ => ⟨he, hw ▸ h.drewN n⟩
theorem RdI.endB (h : RdI W ⟨g7, g8, g9, p1, p2, q1, q2, va, vc, vb, vd, xa, xc, ya, yc, za, zb⟩ w i1 e1 i2 e2) :
    Calls Try.prog 28 #[.pointer (some ⟨p2, 0, none⟩)] w fun e' w' => e' = .returned (.int .i64 (endE zb.length i2 e2)) ∧ RdI W ⟨g7, g8, g9, p1, p2, q1, q2, va, vc, vb, vd, xa, xc, ya, yc, za, zb⟩ w' i1 e1 i2 e2 :=
  (end_calls w p2 _ _ zb i2 e2 h.B.C).mono fun _ _ ⟨he, n, hw⟩ => ⟨he, hw ▸ h.drewN n⟩
theorem RdI.rendA (h : RdI W ⟨g7, g8, g9, p1, p2, q1, q2, va, vc, vb, vd, xa, xc, ya, yc, za, zb⟩ w i1 e1 i2 e2) :
    Calls Try.prog 29 #[.pointer (some ⟨q1, 0, none⟩)] w fun e' w' => e' = .returned (.int .i64 (endE za.length i1 e1)) ∧ RdI W ⟨g7, g8, g9, p1, p2, q1, q2, va, vc, vb, vd, xa, xc, ya, yc, za, zb⟩ w' i1 e1 i2 e2 :=
  (rend_calls w q1 _ _ za i1 e1 h.A.R).mono fun _ _ ⟨he, n, hw⟩ => ⟨he, hw ▸ h.drewN n⟩
theorem RdI.rendB (h : RdI W ⟨g7, g8, g9, p1, p2, q1, q2, va, vc, vb, vd, xa, xc, ya, yc, za, zb⟩ w i1 e1 i2 e2) :
    Calls Try.prog 29 #[.pointer (some ⟨q2, 0, none⟩)] w fun e' w' => e' = .returned (.int .i64 (endE zb.length i2 e2)) ∧ RdI W ⟨g7, g8, g9, p1, p2, q1, q2, va, vc, vb, vd, xa, xc, ya, yc, za, zb⟩ w' i1 e1 i2 e2 :=
  (rend_calls w q2 _ _ zb i2 e2 h.B.R).mono fun _ _ ⟨he, n, hw⟩ => ⟨he, hw ▸ h.drewN n⟩
theorem RdI.copyA (h : RdI W ⟨g7, g8, g9, p1, p2, q1, q2, va, vc, vb, vd, xa, xc, ya, yc, za, zb⟩ w i1 e1 i2 e2) (hn : za.length ≤ 140737488351232) :
    Calls Try.prog 11 #[.slice xa za.length xc] w fun e' w' => e' = .returned (.slice (some ⟨w.heap.size, 0, none⟩) za.length za.length) ∧ Ow .u8 5 w.heap.size w' (.slice (some ⟨w.heap.size, 0, none⟩) za.length za.length) za ∧ Kept (fun _ => False) w w' :=
  (copied_calls w _ _ _ za h.A.R.sl hn).mono fun _ _ ⟨he, fr⟩ => ⟨he, fr.row.ow (Nat.le_refl _) (by omega), Kept.none_of_below fr.below⟩
theorem RdI.copyB (h : RdI W ⟨g7, g8, g9, p1, p2, q1, q2, va, vc, vb, vd, xa, xc, ya, yc, za, zb⟩ w i1 e1 i2 e2) (hn : zb.length ≤ 140737488351232) :
    Calls Try.prog 11 #[.slice ya zb.length yc] w fun e' w' => e' = .returned (.slice (some ⟨w.heap.size, 0, none⟩) zb.length zb.length) ∧ Ow .u8 5 w.heap.size w' (.slice (some ⟨w.heap.size, 0, none⟩) zb.length zb.length) zb ∧ Kept (fun _ => False) w w' :=
  (copied_calls w _ _ _ zb h.B.R.sl hn).mono fun _ _ ⟨he, fr⟩ => ⟨he, fr.row.ow (Nat.le_refl _) (by omega), Kept.none_of_below fr.below⟩
theorem RdI.sameA (h : RdI W ⟨g7, g8, g9, p1, p2, q1, q2, va, vc, vb, vd, xa, xc, ya, yc, za, zb⟩ w i1 e1 i2 e2) {a : Option Addr} {c : Nat} (hs : SlI .u8 w a (za.length + 2) c (za ++ [3, 3])) :
    Calls Try.prog 16 #[.slice va (za.length + 2) vc, .slice a (za.length + 2) c] w fun e' w' => e' = .returned (.bool true) ∧ RdI W ⟨g7, g8, g9, p1, p2, q1, q2, va, vc, vb, vd, xa, xc, ya, yc, za, zb⟩ w' i1 e1 i2 e2 := by
  obtain ⟨a9, c9, e9, s9, _⟩ := h.o1.sl
  have el : (za ++ [(3:Int), 3]).length = za.length + 2 := by simp
  rw [el] at e9 s9
  simp only [Value.slice.injEq] at e9
  obtain ⟨rfl, _, rfl⟩ := e9
  have := same_calls w _ _ _ _ _ _ _ _ s9 hs
  rw [sameB_self] at this
  exact this.mono fun _ _ ⟨he, n, hw⟩ => ⟨he, hw ▸ h.drewN n⟩
theorem RdI.sameB (h : RdI W ⟨g7, g8, g9, p1, p2, q1, q2, va, vc, vb, vd, xa, xc, ya, yc, za, zb⟩ w i1 e1 i2 e2) {a : Option Addr} {c : Nat} (hs : SlI .u8 w a (zb.length + 2) c (zb ++ [4, 4])) :
    Calls Try.prog 16 #[.slice vb (zb.length + 2) vd, .slice a (zb.length + 2) c] w fun e' w' => e' = .returned (.bool true) ∧ RdI W ⟨g7, g8, g9, p1, p2, q1, q2, va, vc, vb, vd, xa, xc, ya, yc, za, zb⟩ w' i1 e1 i2 e2 := by
  obtain ⟨a9, c9, e9, s9, _⟩ := h.o2.sl
  have el : (zb ++ [(4:Int), 4]).length = zb.length + 2 := by simp
  rw [el] at e9 s9
  simp only [Value.slice.injEq] at e9
  obtain ⟨rfl, _, rfl⟩ := e9
  have := same_calls w _ _ _ _ _ _ _ _ s9 hs
  rw [sameB_self] at this
  exact this.mono fun _ _ ⟨he, n, hw⟩ => ⟨he, hw ▸ h.drewN n⟩
end
end Go.Proofs.Ytgkbkkhlnidigaa
