/- DoA DoB DoC DoD, laid as one. -/
import Derived.Test.YtjgcmnppiaikcaaDoorDkV
import Derived.Test.YtjgcmnppiaikcaaDoorPkR
import Derived.Laws.EntriesVeiled
import Derived.Laws.Tables
import Derived.Laws.CopyOwn
import Derived.Test.YtjgcmnppiaikcaaDoorHe
import Derived.Outline
import Derived.Deep.Cut
import Derived.Test.YtjgcmnppiaikcaaDoorDkE
import Derived.Test.YtjgcmnppiaikcaaDoorDkS
import Derived.Laws.Concat
import Derived.BigQuiet
import Derived.Deep.QuietTactic
import Derived.Deep.CutRange
set_option linter.unusedVariables false
set_option linter.unusedSimpArgs false
/- The document's head and View of a dictionary's bytes. -/
namespace Go.Tk
open Go Go.RowKit
theorem results_cc {P : Program} {fn : Func} {p q : Tmp} {ty ty2 : TypeId} (h : fn.results = #[.cell p ty, .cell q ty2]) (tmps : Array Value) (w : World) (g g2 : Nat) (t t2 : TypeId) (cs cs2 : Array Value) (fr fr2 : Nat × Nat) (d d2 : TypeDesc)
    (hp : tmps.getD p undef = .pointer (some ⟨g, 0, none⟩)) (hg : w.heap[g]? = some (.cells cs t fr)) (hq : tmps.getD q undef = .pointer (some ⟨g2, 0, none⟩)) (hg2 : w.heap[g2]? = some (.cells cs2 t2 fr2))
    (hu : P.underlying ty = some d) (hd : (match d with | .struct _ | .array _ _ => true | _ => false) = true) (hi : (P.info? ty).map (·.size) = some cs.size)
    (hu2 : P.underlying ty2 = some d2) (hd2 : (match d2 with | .struct _ | .array _ _ => true | _ => false) = true) (hi2 : (P.info? ty2).map (·.size) = some cs2.size) :
    (results fn tmps).run P w = .ok (.tuple #[.agg cs, .agg cs2]) w := by
  have hp' : tmps[p]?.getD undef = .pointer (some ⟨g, 0, none⟩) := by simpa using hp
  have hq' : tmps[q]?.getD undef = .pointer (some ⟨g2, 0, none⟩) := by simpa using hq
  simp [results, h, hp', hq', asAddr, run_loadVar_row w g t ty cs fr d hg hu hd hi, run_loadVar_row w g2 t2 ty2 cs2 fr2 d2 hg2 hu2 hd2 hi2]
theorem run_store_rowO {P : Program} {o : Oper} {a : Act} {w : World} (ty : TypeId) (x y : Operand) (ho : o.op = .store ty x y)
    (g : Nat) (cells : Array Value) (hx : a.eval x = .pointer (some ⟨g, 0, none⟩)) (hy : a.eval y = .agg cells)
    (t : TypeId) (old : Array Value) (hg : w.heap[g]? = some (.cells old t (0, 0))) (hi : (P.info? ty).map (·.size) = some cells.size)
    (hold : old.size = cells.size) (h1 : cells.all (·.oneCell') = true) : (execOp a.eval o).run P w = .ok .skip (w.setRow g cells) := by
  unfold execOp
  simp only [ho, hx, hy, Instr.storeAt, Instr.sureAddr, Sem.run_bind, Sem.run_pure, Result.andThen_ok, run_storeVar_row w g t ty old cells hg hi hold h1]
end Go.Tk
namespace Go.Proofs.YtjgcmnppiaikcaaDoor
open Go.RowKit Go.Tk
theorem Tryd.sizeHdO : (Tryd.prog.info? 35).map (·.size) = some 4 := by kernel_rfl
theorem Tryd.sizeFlO : (Tryd.prog.info? 31).map (·.size) = some 2 := by kernel_rfl
/-- What is read at a place, by pk and by upS. -/
theorem ups_pk (z : List Int) (j : Nat) (hj : j ≤ z.length) : ∃ (v k : Nat) (e : Int), pk (z.drop j) = ((v : Int), (k : Int), e) ∧ upS z j 0 mxU = (if e ≠ 0 then (0, j, e) else ((v : Int), j + k, 0)) ∧ (v : Int) < 18446744073709551616 ∧ j + k ≤ z.length ∧ (e = 0 ∨ e = 10 ∨ e = 11) ∧ k ≤ 10 := by
  have h1 := pk_range (z.drop j)
  obtain ⟨k, hk1, hk2, _, hk4⟩ := pkF_len (z.drop j) 0 0
  have hk : (pk (z.drop j)).2.1 = k := hk1
  have hk10 := pkF_ten (z.drop j) 0 0 (by omega)
  rw [List.length_drop] at hk2
  refine ⟨(pk (z.drop j)).1.toNat, k, (pk (z.drop j)).2.2, ?_, ?_, by omega, by omega, hk4, by rw [hk1] at hk10; omega⟩
  · refine Prod.ext ?_ (Prod.ext hk rfl)
    simp only; omega
  · unfold upS
    rw [if_neg (by simp)]
    by_cases he : (pk (z.drop j)).2.2 = 0
    · rw [if_neg (by simp [he]), if_neg (show ¬ mxU < (pk (z.drop j)).1 by unfold mxU; omega), if_neg (by simp [he]), hk]
      refine Prod.ext ?_ rfl
      simp only; omega
    · rw [if_pos he, if_pos he]
/-- The two results of head, as long as nothing is stored. -/
structure HdR (w0 w1 : World) (g : Nat) : Prop where
  r2 : w1.heap[g]? = some (.cells #[.int .i64 0, .int .i64 0, .int .i64 0, .int .i64 0] 35 (0, 0))
  r3 : w1.heap[g + 1]? = some (.cells #[.int .i64 0, .int .i64 0] 31 (0, 0))
  bl : Below w0.heap.size w0 w1
  gb : w0.heap.size ≤ g
theorem HdR.new (w : World) : HdR w ((w.alloc (.cells #[.int .i64 0, .int .i64 0, .int .i64 0, .int .i64 0] 35)).alloc (.cells #[.int .i64 0, .int .i64 0] 31)) w.heap.size := by
  refine ⟨(Below.heap_alloc _ _ _ (by simp)).trans (heap_alloc_new _ _), ?_, ((Below.refl _ w).alloc (Nat.le_refl _) _).alloc (by simp) _, Nat.le_refl _⟩
  have := heap_alloc_new (w.alloc (.cells #[.int .i64 0, .int .i64 0, .int .i64 0, .int .i64 0] 35)) (.cells #[.int .i64 0, .int .i64 0] 31)
  simpa using this
theorem HdR.below {w0 w1 w2 : World} {g : Nat} (h : HdR w0 w1 g) (hb : Below w1.heap.size w1 w2) : HdR w0 w2 g :=
  ⟨(hb.block _ (lt_of_block h.r2)).trans h.r2, (hb.block _ (lt_of_block h.r3)).trans h.r3, h.bl.trans (hb.mono h.bl.size), h.gb⟩
theorem stor2O {w : World} {g : Nat} {x y u v : Value} {t : TypeId} (h : w.heap[g]? = some (.cells #[x, y] t (0, 0))) : ((w.setCell ⟨g, 0, none⟩ u).setCell ⟨g, 1, none⟩ v).heap[g]? = some (.cells #[u, v] t (0, 0)) :=
  heap_setCell_same _ _ 1 _ _ _ (heap_setCell_same _ _ 0 _ _ _ h)
theorem stor4O {w : World} {g : Nat} {x y z k u v s r : Value} {t : TypeId} (h : w.heap[g]? = some (.cells #[x, y, z, k] t (0, 0))) : ((((w.setCell ⟨g, 0, none⟩ u).setCell ⟨g, 1, none⟩ v).setCell ⟨g, 2, none⟩ s).setCell ⟨g, 3, none⟩ r).heap[g]? = some (.cells #[u, v, s, r] t (0, 0)) :=
  heap_setCell_same _ _ 3 _ _ _ (heap_setCell_same _ _ 2 _ _ _ (heap_setCell_same _ _ 1 _ _ _ (heap_setCell_same _ _ 0 _ _ _ h)))
/-- Both results stored. -/
abbrev stoB (w : World) (g : Nat) (x0 x1 x2 x3 y0 y1 : Value) : World :=
  (((((w.setCell ⟨g, 0, none⟩ x0).setCell ⟨g, 1, none⟩ x1).setCell ⟨g, 2, none⟩ x2).setCell ⟨g, 3, none⟩ x3).setCell ⟨g + 1, 0, none⟩ y0).setCell ⟨g + 1, 1, none⟩ y1
theorem HdR.sto {w0 w1 : World} {g : Nat} (h : HdR w0 w1 g) (x0 x1 x2 x3 y0 y1 : Value) :
    (stoB w1 g x0 x1 x2 x3 y0 y1).heap[g]? = some (.cells #[x0, x1, x2, x3] 35 (0, 0)) ∧ (stoB w1 g x0 x1 x2 x3 y0 y1).heap[g + 1]? = some (.cells #[y0, y1] 31 (0, 0)) ∧ Below w0.heap.size w0 (stoB w1 g x0 x1 x2 x3 y0 y1) := by
  have hgb := h.gb
  refine ⟨?_, ?_, ?_⟩
  · refine (heap_setCell_other _ _ _ _ (by simp)).trans ((heap_setCell_other _ _ _ _ (by simp)).trans ?_)
    exact stor4O h.r2
  · refine stor2O (x := .int .i64 0) (y := .int .i64 0) ?_
    exact (heap_setCell_other _ _ _ _ (by simp)).trans ((heap_setCell_other _ _ _ _ (by simp)).trans ((heap_setCell_other _ _ _ _ (by simp)).trans ((heap_setCell_other _ _ _ _ (by simp)).trans h.r3)))
  · exact (((((h.bl.setCell (p := ⟨g, 0, none⟩) hgb _).setCell (p := ⟨g, 1, none⟩) hgb _).setCell (p := ⟨g, 2, none⟩) hgb _).setCell (p := ⟨g, 3, none⟩) hgb _).setCell (p := ⟨g + 1, 0, none⟩) (by simp only; omega) _).setCell (p := ⟨g + 1, 1, none⟩) (by simp only; omega) _
theorem HdR.setO {w0 w1 : World} {g gh : Nat} (h : HdR w0 w1 g) (hne : g + 1 < gh) (i : Nat) (v : Value) : HdR w0 (w1.setCell ⟨gh, i, none⟩ v) g :=
  ⟨(heap_setCell_other _ _ _ _ (by simp only; omega)).trans h.r2, (heap_setCell_other _ _ _ _ (by simp only; omega)).trans h.r3, h.bl.setCell (p := ⟨gh, i, none⟩) (by have := h.gb; simp only; omega) v, h.gb⟩
theorem HdR.stoR {w0 w1 : World} {g : Nat} (h : HdR w0 w1 g) (x0 x1 x2 x3 y0 y1 : Value) :
    ((w1.setRow g #[x0, x1, x2, x3]).setRow (g + 1) #[y0, y1]).heap[g]? = some (.cells #[x0, x1, x2, x3] 35 (0, 0)) ∧ ((w1.setRow g #[x0, x1, x2, x3]).setRow (g + 1) #[y0, y1]).heap[g + 1]? = some (.cells #[y0, y1] 31 (0, 0)) ∧ Below w0.heap.size w0 ((w1.setRow g #[x0, x1, x2, x3]).setRow (g + 1) #[y0, y1]) :=
  ⟨(setRow_other _ _ _ _ (by omega)).trans (setRow_heap _ _ _ _ _ _ h.r2), setRow_heap _ _ _ _ _ _ ((setRow_other _ _ _ _ (by omega)).trans h.r3), below_setRow (below_setRow h.bl h.gb _) (by have := h.gb; omega) _⟩
/-- The cells of both results. -/
structure HdC (w1 : World) (g : Nat) : Prop where
  c0 : w1.cell? ⟨g, 0, none⟩ = some (.int .i64 0)
  c1 : w1.cell? ⟨g, 1, none⟩ = some (.int .i64 0)
  c2 : w1.cell? ⟨g, 2, none⟩ = some (.int .i64 0)
  c3 : w1.cell? ⟨g, 3, none⟩ = some (.int .i64 0)
  d0 : w1.cell? ⟨g + 1, 0, none⟩ = some (.int .i64 0)
  d1 : w1.cell? ⟨g + 1, 1, none⟩ = some (.int .i64 0)
  f : ∀ i, w1.frozen? ⟨g, i, none⟩ = false
  f' : ∀ i, w1.frozen? ⟨g + 1, i, none⟩ = false
theorem HdR.cs {w0 w1 : World} {g : Nat} (h : HdR w0 w1 g) : HdC w1 g :=
  ⟨cell_of_row w1 g 0 _ _ _ h.r2, cell_of_row w1 g 1 _ _ _ h.r2, cell_of_row w1 g 2 _ _ _ h.r2, cell_of_row w1 g 3 _ _ _ h.r2, cell_of_row w1 (g + 1) 0 _ _ _ h.r3, cell_of_row w1 (g + 1) 1 _ _ _ h.r3, fun i => frozen_of_row w1 g i _ _ h.r2, fun i => frozen_of_row w1 (g + 1) i _ _ h.r3⟩
/-- What head says of bytes: its four numbers, as the model has them. -/
def hdV (b : List UInt8) : Value := if (shE b).1 = 0 then .agg #[.int .i64 (hdN b : Nat), .int .i64 (hdS b : Nat), .int .i64 (hd3 b : Nat), .int .i64 (hd4 b : Nat)] else .agg #[.int .i64 0, .int .i64 0, .int .i64 0, .int .i64 0]
def flV (x : Int × Nat) : Value := .agg #[.int .i64 (x.2 : Nat), .int .i64 x.1]
end Go.Proofs.YtjgcmnppiaikcaaDoor
/- The document's head. -/
namespace Go.Proofs.YtjgcmnppiaikcaaDoor
open Go.RowKit Go.Tk
set_option maxRecDepth 100000 in
set_option maxHeartbeats 1000000 in
theorem rhead_calls (w : World) (a : Option Addr) (c : Nat) (b : List UInt8) (hs : SlI .u8 w a b.length c (nums b)) :
    Calls Tryd.prog 19 #[.slice a b.length c] w fun e w' => e = .returned (.tuple #[hdV b, flV ((shE b).1, (shE b).2)]) ∧ Below w.heap.size w w' := by
  have HI := Lib.hid Tryd.sizeHdO
  have HI2 := Lib.hid Tryd.sizeFlO
  have hR := HdR.new w
  have hsR := hs.keep hR.bl
  have hle := hs.le
  have hmx := hs.max
  have hzl : (nums b).length = b.length := nums_len b
  obtain ⟨vA, kA, eA, pA1, pA2, pA3, pA4, pA5, pA6⟩ := ups_pk (nums b) 0 (Nat.zero_le _)
  rw [List.drop_zero] at pA1
  have hA : hdA b = if eA ≠ 0 then (0, 0, eA) else ((vA : Int), kA, 0) := by
    have : hdA b = upS (nums b) 0 0 mxU := rfl
    rw [this, pA2, Nat.zero_add]
  go_enter Tryd.func19, Tryd.ntmps19
  go_upto_region 1 with fail
  generalize (w.alloc (.cells #[.int .i64 0, .int .i64 0, .int .i64 0, .int .i64 0] 35)).alloc (.cells #[.int .i64 0, .int .i64 0] 31) = w1 at hR hsR ⊢
  have hN1 := number_calls w1 a b.length c (nums b) hsR (nums_u8 b)
  rw [pA1] at hN1
  unfold pkV at hN1
  simp only at hN1
  have HR := Lib.hid hR
  have HS1 := Lib.hid hsR
  have HA := Lib.hid hA
  have HN1 := Lib.hid hN1
  have HZL := Lib.hid hzl
  have heA : eA ≤ 11 := by omega
  have heA0 : 0 ≤ eA := by omega
  have hkA : kA ≤ b.length := by rw [← hzl]; omega
  generalize hgg : w.heap.size = g at HR ⊢
  have HGG := Lib.hid hgg
  have HRB := Lib.hid HR.out
  clear hR hsR hs pA1 pA2 hA hN1 hzl pA5 pA4 hgg
  go_upto_region 2 with (go_at_call 35; (with_reducible refine HN1.out.mono ?_); rintro e wz ⟨rfl, rfl⟩)
  by_cases hea : eA ≠ 0
  · have e1 : (eA != 0) = true := by simp [hea]
    have HSH := Lib.hid (show shE b = (eA, 0) by unfold shE; rw [HA.out, if_pos hea, if_pos hea])
    have HEA := Lib.hid hea
    obtain ⟨c0, c1, c2, c3, d0, d1, ff, ff2⟩ := HR.out.cs
    clear hea
    go_wp2
    refine bodyPost_ret (results_cc rfl _ _ g (g + 1) _ _ _ _ _ _ _ _ rfl (HdR.sto HR.out (.int .i64 0) (.int .i64 0) (.int .i64 0) (.int .i64 0) (.int .i64 0) (.int .i64 eA)).1 rfl (HdR.sto HR.out (.int .i64 0) (.int .i64 0) (.int .i64 0) (.int .i64 0) (.int .i64 0) (.int .i64 eA)).2.1 Tryd.underlying35 rfl HI.out Tryd.underlying31 rfl HI2.out) rfl ⟨?_, (HdR.sto HR.out (.int .i64 0) (.int .i64 0) (.int .i64 0) (.int .i64 0) (.int .i64 0) (.int .i64 eA)).2.2⟩
    rw [HSH.out]; unfold hdV; rw [HSH.out, if_neg HEA.out]; rfl
  have hea0 : eA = 0 := by omega
  subst hea0
  have HAA := Lib.hid (show hdA b = ((vA : Int), kA, 0) by rw [HA.out, if_neg (by simp)])
  clear hea HA heA heA0
  by_cases hnA : 4194304 < vA
  · have e2 : decide ((4194304 : Int) < (vA : Int)) = true := decide_eq_true (by omega)
    have HSH := Lib.hid (show shE b = (2, 0) by unfold shE; rw [HAA.out, if_neg (by simp), if_pos (by simp only; omega)])
    obtain ⟨c0, c1, c2, c3, d0, d1, ff, ff2⟩ := HR.out.cs
    go_wp2
    refine bodyPost_ret (results_cc rfl _ _ g (g + 1) _ _ _ _ _ _ _ _ rfl (HdR.sto HR.out (.int .i64 0) (.int .i64 0) (.int .i64 0) (.int .i64 0) (.int .i64 0) (.int .i64 2)).1 rfl (HdR.sto HR.out (.int .i64 0) (.int .i64 0) (.int .i64 0) (.int .i64 0) (.int .i64 0) (.int .i64 2)).2.1 Tryd.underlying35 rfl HI.out Tryd.underlying31 rfl HI2.out) rfl ⟨?_, (HdR.sto HR.out (.int .i64 0) (.int .i64 0) (.int .i64 0) (.int .i64 0) (.int .i64 0) (.int .i64 2)).2.2⟩
    rw [HSH.out]; unfold hdV; rw [HSH.out]; rfl
  have hnA' : vA ≤ 4194304 := by omega
  have htl := SlI.tail HS1.out kA hkA
  obtain ⟨vB, kB, eB, pB1, pB2, pB3, pB4, pB5, pB6⟩ := ups_pk (nums b) kA (by rw [HZL.out]; exact hkA)
  have hB : hdB b = if eB ≠ 0 then (0, kA, eB) else ((vB : Int), kA + kB, 0) := by
    have : hdB b = upS (nums b) (hdA b).2.1 0 mxU := rfl
    rw [this, HAA.out]; exact pB2
  obtain ⟨A, hAd⟩ : ∃ A, A = (if c = kA then a else Option.map (fun x => x.add kA) a) := ⟨_, rfl⟩
  obtain ⟨c2, hc2⟩ : ∃ c2, c2 = c - kA := ⟨_, rfl⟩
  obtain ⟨L2, hL2⟩ : ∃ L2, L2 = b.length - kA := ⟨_, rfl⟩
  rw [← hAd, ← hc2, ← hL2] at htl
  have hN2 := number_calls w1 A L2 c2 ((nums b).drop kA) htl (fun x hx => nums_u8 b x (List.mem_of_mem_drop hx))
  rw [pB1] at hN2
  unfold pkV at hN2
  simp only at hN2
  have HN2 := Lib.hid hN2
  have HBB := Lib.hid hB
  have heB : eB ≤ 11 := by omega
  have heB0 : 0 ≤ eB := by omega
  have hkB : kA + kB ≤ b.length := by rw [← HZL.out]; exact pB4
  have hA' := hAd.symm
  have hc2' := hc2.symm
  have hL2' := hL2.symm
  have e2 : decide ((4194304 : Int) < (vA : Int)) = false := decide_eq_false (by omega)
  clear htl pB1 pB2 hB hN2 pB5 pB4 hAd hc2 hL2 hnA
  go_upto_region 7 with (go_at_call 35; (with_reducible refine HN2.out.mono ?_); rintro e wz ⟨rfl, rfl⟩)
  clear hA' hc2' hL2'
  by_cases heb : eB ≠ 0
  · have e1 : (eB != 0) = true := by simp [heb]
    have HSH := Lib.hid (show shE b = (eB, kA) by unfold shE; rw [HAA.out, if_neg (by simp), if_neg (by simp only; omega), HBB.out, if_pos heb, if_pos heb])
    have HEB := Lib.hid heb
    obtain ⟨c0, c1, c2, c3, d0, d1, ff, ff2⟩ := HR.out.cs
    clear heb
    go_wp2
    refine bodyPost_ret (results_cc rfl _ _ g (g + 1) _ _ _ _ _ _ _ _ rfl (HdR.sto HR.out (.int .i64 0) (.int .i64 0) (.int .i64 0) (.int .i64 0) (.int .i64 (kA : Nat)) (.int .i64 eB)).1 rfl (HdR.sto HR.out (.int .i64 0) (.int .i64 0) (.int .i64 0) (.int .i64 0) (.int .i64 (kA : Nat)) (.int .i64 eB)).2.1 Tryd.underlying35 rfl HI.out Tryd.underlying31 rfl HI2.out) rfl ⟨?_, (HdR.sto HR.out (.int .i64 0) (.int .i64 0) (.int .i64 0) (.int .i64 0) (.int .i64 (kA : Nat)) (.int .i64 eB)).2.2⟩
    rw [HSH.out]; unfold hdV; rw [HSH.out, if_neg HEB.out]; rfl
  have heb0 : eB = 0 := by omega
  subst heb0
  have HBA := Lib.hid (show hdB b = ((vB : Int), kA + kB, 0) by rw [HBB.out, if_neg (by simp)])
  clear heb HBB heB heB0
  by_cases hnB : 67108864 < vB
  · have e3 : decide ((67108864 : Int) < (vB : Int)) = true := decide_eq_true (by omega)
    have HSH := Lib.hid (show shE b = (2, kA) by unfold shE; rw [HAA.out, HBA.out, if_neg (by simp), if_neg (by simp only; omega), if_neg (by simp), if_pos (by simp only; omega)])
    obtain ⟨c0, c1, c2, c3, d0, d1, ff, ff2⟩ := HR.out.cs
    go_wp2
    refine bodyPost_ret (results_cc rfl _ _ g (g + 1) _ _ _ _ _ _ _ _ rfl (HdR.sto HR.out (.int .i64 0) (.int .i64 0) (.int .i64 0) (.int .i64 0) (.int .i64 (kA : Nat)) (.int .i64 2)).1 rfl (HdR.sto HR.out (.int .i64 0) (.int .i64 0) (.int .i64 0) (.int .i64 0) (.int .i64 (kA : Nat)) (.int .i64 2)).2.1 Tryd.underlying35 rfl HI.out Tryd.underlying31 rfl HI2.out) rfl ⟨?_, (HdR.sto HR.out (.int .i64 0) (.int .i64 0) (.int .i64 0) (.int .i64 0) (.int .i64 (kA : Nat)) (.int .i64 2)).2.2⟩
    rw [HSH.out]; unfold hdV; rw [HSH.out]; rfl
  have e3 : decide ((67108864 : Int) < (vB : Int)) = false := decide_eq_false (by omega)
  have hnB' : vB ≤ 67108864 := by omega
  clear hnB
  have hwd := hdW_rg (b := b) (by rw [HBA.out]; simp only; omega)
  obtain ⟨wd, hwdd⟩ : ∃ wd, wd = hdW b := ⟨_, rfl⟩
  rw [← hwdd, HBA.out] at hwd
  simp only at hwd
  have hwi := fun w' => rwidth_calls (vB : Int) w' (by omega) (by omega)
  simp only [hwd.1] at hwi
  have hwd27 := hwd.2
  obtain ⟨bl, hbl⟩ : ∃ bl, bl = (vA + 15) / 16 := ⟨_, rfl⟩
  have hbl1 : ((vA : Int) + 16 - 1) / 16 = (bl : Int) := by omega
  have hbl2 : bl ≤ 262144 := by omega
  have hm : bl * wd ≤ 262144 * 27 := Nat.mul_le_mul hbl2 hwd27
  obtain ⟨pr, hpr⟩ : ∃ pr, pr = bl * wd := ⟨_, rfl⟩
  have hpr1 : (bl : Int) * (wd : Int) = (pr : Int) := by rw [hpr]; push_cast; rfl
  rw [← hpr] at hm
  obtain ⟨q, hq⟩ : ∃ q, q = (pr + 7) / 8 := ⟨_, rfl⟩
  have hq1 : ((pr : Int) + 7) / 8 = (q : Int) := by omega
  have hqb : q ≤ 884737 := by omega
  obtain ⟨AR, hAR⟩ : ∃ AR, AR = kA + kB + q := ⟨_, rfl⟩
  have hA1 : (kA : Int) + (kB : Int) + (q : Int) = (AR : Int) := by omega
  have hkAB : kA + kB ≤ 20 := by omega
  have hARb : AR ≤ 884757 := by omega
  have HN := Lib.hid (show hdN b = vA by unfold hdN; rw [HAA.out]; simp)
  have HSz := Lib.hid (show hdS b = vB by unfold hdS; rw [HBA.out]; simp)
  have H3 := Lib.hid (show hd3 b = kA + kB by unfold hd3; rw [HBA.out])
  have H4 := Lib.hid (show hd4 b = AR by unfold hd4; rw [H3.out, HN.out, ← hwdd, ← hbl, ← hpr, ← hq, hAR])
  have HSH := Lib.hid (show shE b = if b.length < AR + vB then (10, b.length) else if AR + vB < b.length then (13, AR + vB) else (0, 0) by
    unfold shE; rw [HAA.out, HBA.out, if_neg (by simp), if_neg (by simp only; omega), if_neg (by simp), if_neg (by simp only; omega), H4.out, HSz.out])
  have HWI := Lib.hid hwi
  clear hwd hwdd hwi hbl hpr hq hAR HAA HBA HN1 HN2
  go_upto_region 12 with fail
  have hrh : (w1.alloc (.cells #[.int .i64 (vA : Nat), .int .i64 (vB : Nat), .int .i64 ((kA : Int) + (kB : Int)), .int .i64 0] 35)).heap[w1.heap.size]? = some (.cells #[.int .i64 (vA : Nat), .int .i64 (vB : Nat), .int .i64 ((kA : Int) + (kB : Int)), .int .i64 0] 35 (0, 0)) := heap_alloc_new _ _
  have hR2 := HR.out.below ((Below.refl w1.heap.size w1).alloc (Nat.le_refl _) (.cells #[.int .i64 (vA : Nat), .int .i64 (vB : Nat), .int .i64 ((kA : Int) + (kB : Int)), .int .i64 0] 35))
  have hgh : g + 1 < w1.heap.size := lt_of_block HR.out.r3
  generalize w1.alloc (.cells #[.int .i64 (vA : Nat), .int .i64 (vB : Nat), .int .i64 ((kA : Int) + (kB : Int)), .int .i64 0] 35) = w2 at hrh hR2 ⊢
  generalize w1.heap.size = gh at hrh hgh ⊢
  have HR2 := Lib.hid hR2
  have HRH := Lib.hid hrh
  have k0 := cell_of_row w2 gh 0 _ _ _ hrh
  have k2 := cell_of_row w2 gh 2 _ _ _ hrh
  have k3 := cell_of_row w2 gh 3 _ _ _ hrh
  have k3f := frozen_of_row w2 gh 3 _ _ hrh
  simp at k0 k2 k3
  clear hrh hR2 HR HRB HS1
  go_upto_region 13 with fail
  simp only [hbl1]
  clear hbl1
  refine wp_region_quiet_tail (fun w' => ∃ n, w' = w2.drewN n) 10 (by kernel_rfl) (by kernel_rfl) ⟨1, rfl⟩ ?_
  simp only [List.take_succ_cons, List.take_zero, List.drop_succ_cons, List.drop_zero]
  repeat (go_big_quiet_step ((go_at_call 21; exact quiet_eq (HWI.out _))))
  refine wpQuiet_nil ?_
  rintro _ ⟨dn, rfl⟩
  clear k0 k2
  go_upto_region 14 with fail
  have hR3 : HdR w ((w2.drewN dn).setCell ⟨gh, 3, none⟩ (.int .i64 (AR : Nat))) g := HdR.setO (HdR.below HR2.out (below_drewN (Below.refl _ _) dn)) (by omega) 3 _
  have hrh3 : ((w2.drewN dn).setCell ⟨gh, 3, none⟩ (.int .i64 (AR : Nat))).heap[gh]? = some (.cells #[.int .i64 (vA : Nat), .int .i64 (vB : Nat), .int .i64 ((kA : Int) + (kB : Int)), .int .i64 (AR : Nat)] 35 (0, 0)) := heap_setCell_same (w2.drewN dn) gh 3 _ _ _ HRH.out
  generalize (w2.drewN dn).setCell ⟨gh, 3, none⟩ (.int .i64 (AR : Nat)) = w3 at hR3 hrh3 ⊢
  clear k3 k3f HR2 HRH HWI
  have HR3 := Lib.hid hR3
  have HRH3 := Lib.hid hrh3
  have m1 : w3.cell? ⟨gh, 1, none⟩ = some (.int .i64 (vB : Nat)) := cell_of_row w3 gh 1 _ _ _ hrh3
  have m3 : w3.cell? ⟨gh, 3, none⟩ = some (.int .i64 (AR : Nat)) := cell_of_row w3 gh 3 _ _ _ hrh3
  clear hR3 hrh3
  obtain ⟨c0, c1, c2, c3, d0, d1, ff, ff2⟩ := HR3.out.cs
  by_cases c14 : (b.length : Int) < (AR : Int) + (vB : Int)
  · have HF := Lib.hid (show shE b = (10, b.length) by rw [HSH.out, if_pos (by omega)])
    go_wp2
    refine bodyPost_ret (results_cc rfl _ _ g (g + 1) _ _ _ _ _ _ _ _ rfl (HdR.sto HR3.out (.int .i64 0) (.int .i64 0) (.int .i64 0) (.int .i64 0) (.int .i64 (b.length : Nat)) (.int .i64 10)).1 rfl (HdR.sto HR3.out (.int .i64 0) (.int .i64 0) (.int .i64 0) (.int .i64 0) (.int .i64 (b.length : Nat)) (.int .i64 10)).2.1 Tryd.underlying35 rfl HI.out Tryd.underlying31 rfl HI2.out) rfl ⟨?_, (HdR.sto HR3.out (.int .i64 0) (.int .i64 0) (.int .i64 0) (.int .i64 0) (.int .i64 (b.length : Nat)) (.int .i64 10)).2.2⟩
    rw [HF.out]; unfold hdV; rw [HF.out]; rfl
  by_cases c16 : (AR : Int) + (vB : Int) < (b.length : Int)
  · have HF := Lib.hid (show shE b = (13, AR + vB) by rw [HSH.out, if_neg (by omega), if_pos (by omega)])
    go_upto_region 17 with fail
    have hR4 : HdR w w3.drew g := HR3.out.below (Below.drew (Below.refl _ _))
    have hrh4 : w3.drew.heap[gh]? = some (.cells #[.int .i64 (vA : Nat), .int .i64 (vB : Nat), .int .i64 ((kA : Int) + (kB : Int)), .int .i64 (AR : Nat)] 35 (0, 0)) := HRH3.out
    clear m1 m3 c0 c1 c2 c3 d0 d1 ff ff2
    have HS4 := hR4.sto (.int .i64 0) (.int .i64 0) (.int .i64 0) (.int .i64 0) (.int .i64 ((AR : Int) + (vB : Int))) (.int .i64 13)
    refine wh_start (S := fun W => W.heap[gh]? = some (.cells #[.int .i64 (vA : Nat), .int .i64 (vB : Nat), .int .i64 ((kA : Int) + (kB : Int)), .int .i64 (AR : Nat)] 35 (0, 0))) 9 rfl (by kernel_rfl) ?_
    refine wh_take 0 (.agg #[.int .i64 0, .int .i64 0, .int .i64 0, .int .i64 0]) rfl rfl (by kernel_rfl) (by kernel_rfl) (by kernel_rfl) (fun _ _ _ h => h) hrh4 (fun w' h => by kernel_rfl) ?_
    refine wh_take 1 (.pointer (some ⟨gh, 3, none⟩)) rfl rfl (by kernel_rfl) (by kernel_rfl) (by kernel_rfl) (fun _ _ _ h => h) hrh4 (fun w' h => by simp [go_sem]) ?_
    refine wh_take 2 (.int .i64 (AR : Nat)) rfl rfl (by kernel_rfl) (by kernel_rfl) (by kernel_rfl) (fun _ _ _ h => h) hrh4 (fun w' h => by have k := cell_of_row w' gh 3 _ _ _ h; simp at k; simp [go_sem, k]) ?_
    refine wh_take 3 (.pointer (some ⟨gh, 1, none⟩)) rfl rfl (by kernel_rfl) (by kernel_rfl) (by kernel_rfl) (fun _ _ _ h => h) hrh4 (fun w' h => by simp [go_sem]) ?_
    refine wh_take 4 (.int .i64 (vB : Nat)) rfl rfl (by kernel_rfl) (by kernel_rfl) (by kernel_rfl) (fun _ _ _ h => h) hrh4 (fun w' h => by have k := cell_of_row w' gh 1 _ _ _ h; simp at k; simp [go_sem, k]) ?_
    have hew : IntKind.i64.wrap ((AR : Int) + (vB : Int)) = (AR : Int) + (vB : Int) := by rw [IntKind.wrap_i64]; omega
    refine wh_take 5 (.int .i64 ((AR : Int) + (vB : Int))) rfl rfl (by kernel_rfl) (by kernel_rfl) (by kernel_rfl) (fun _ _ _ h => h) hrh4 (fun w' h => by simp [go_sem, hew]) ?_
    refine wh_take 6 (.agg #[.int .i64 ((AR : Int) + (vB : Int)), .int .i64 13]) rfl rfl (by kernel_rfl) (by kernel_rfl) (by kernel_rfl) (fun _ _ _ h => h) hrh4 (fun w' h => by kernel_rfl) ?_
    refine wh_skip 7 (w' := w3.drew.setRow g #[.int .i64 0, .int .i64 0, .int .i64 0, .int .i64 0]) rfl rfl (by kernel_rfl) (run_store_rowO 35 _ _ rfl g _ (by simp [go_sem]) (by simp [go_sem]) _ _ hR4.r2 HI.out rfl (by simp [Value.oneCell'])) ((setRow_other _ _ _ _ (by omega)).trans hrh4) ?_
    refine wh_skip 8 (w' := (w3.drew.setRow g #[.int .i64 0, .int .i64 0, .int .i64 0, .int .i64 0]).setRow (g + 1) #[.int .i64 ((AR : Int) + (vB : Int)), .int .i64 13]) rfl rfl (by kernel_rfl) (run_store_rowO 31 _ _ rfl (g + 1) _ (by simp [go_sem]) (by simp [go_sem]) _ _ ((setRow_other _ _ _ _ (by omega)).trans hR4.r3) HI2.out rfl (by simp [Value.oneCell'])) ((setRow_other _ _ _ _ (by omega)).trans ((setRow_other _ _ _ _ (by omega)).trans hrh4)) ?_
    refine wpAnyH_done (by kernel_rfl) ?_ 0
    have HSR := hR4.stoR (.int .i64 0) (.int .i64 0) (.int .i64 0) (.int .i64 0) (.int .i64 ((AR : Int) + (vB : Int))) (.int .i64 13)
    generalize (w3.drew.setRow g #[.int .i64 0, .int .i64 0, .int .i64 0, .int .i64 0]).setRow (g + 1) #[.int .i64 ((AR : Int) + (vB : Int)), .int .i64 13] = w5 at HSR ⊢
    have HX := Lib.hid HSR
    clear HSR hR4 hrh4 HS4
    simp only [go_sem, List.setIfInBounds_toArray, List.set_cons_succ, List.set_cons_zero]
    go_wp2
    refine bodyPost_ret (results_cc rfl _ _ g (g + 1) _ _ _ _ _ _ _ _ rfl HX.out.1 rfl HX.out.2.1 Tryd.underlying35 rfl HI.out Tryd.underlying31 rfl HI2.out) rfl ⟨?_, HX.out.2.2⟩
    rw [HF.out]; unfold hdV; rw [HF.out]; rfl
  · have HF := Lib.hid (show shE b = (0, 0) by rw [HSH.out, if_neg (by omega), if_neg (by omega)])
    have HKV := Lib.hid (show hdV b = .agg #[.int .i64 (vA : Nat), .int .i64 (vB : Nat), .int .i64 ((kA : Int) + (kB : Int)), .int .i64 (AR : Nat)] by unfold hdV; rw [HF.out, if_pos rfl, HN.out, HSz.out, H3.out, H4.out]; rfl)
    go_wp2_with (refine wpList_load_row rfl 35 _ rfl gh rfl _ #[.int .i64 (vA : Nat), .int .i64 (vB : Nat), .int .i64 ((kA : Int) + (kB : Int)), .int .i64 (AR : Nat)] _ _ HRH3.out Tryd.underlying35 rfl HI.out ?_)
    refine bodyPost_ret (results_cc rfl _ _ g (g + 1) _ _ _ _ _ _ _ _ rfl (HdR.sto HR3.out (.int .i64 (vA : Nat)) (.int .i64 (vB : Nat)) (.int .i64 ((kA : Int) + (kB : Int))) (.int .i64 (AR : Nat)) (.int .i64 0) (.int .i64 0)).1 rfl (HdR.sto HR3.out (.int .i64 (vA : Nat)) (.int .i64 (vB : Nat)) (.int .i64 ((kA : Int) + (kB : Int))) (.int .i64 (AR : Nat)) (.int .i64 0) (.int .i64 0)).2.1 Tryd.underlying35 rfl HI.out Tryd.underlying31 rfl HI2.out) rfl ⟨?_, (HdR.sto HR3.out (.int .i64 (vA : Nat)) (.int .i64 (vB : Nat)) (.int .i64 ((kA : Int) + (kB : Int))) (.int .i64 (AR : Nat)) (.int .i64 0) (.int .i64 0)).2.2⟩
    rw [HF.out, HKV.out]; rfl
end Go.Proofs.YtjgcmnppiaikcaaDoor
/- The document's entry, exact, numbered. -/
namespace Go.Tk
open Go Go.RowKit
theorem nbwO {F M : Nat} (h : F ≤ 100000000) (h2 : M ≤ 262144) : IntKind.i64.wrap ((F : Int) + (M : Int)) = ((F + M : Nat) : Int) := by
  rw [IntKind.wrap_i64]; omega
theorem comN_comm : ∀ x y : List UInt8, comN x y = comN y x
  | [], [] => rfl
  | [], _ :: _ => rfl
  | _ :: _, [] => rfl
  | a :: x, b :: y => by
    simp only [comN]
    by_cases h : a = b
    · rw [if_pos h, if_pos h.symm, comN_comm x y]
    · rw [if_neg h, if_neg (fun e => h e.symm)]
end Go.Tk
namespace Go.Proofs.YtjgcmnppiaikcaaDoor
open Go.RowKit Go.Tk
theorem rnumb_none (w : World) (k : Nat) : Calls Tryd.prog 22 #[.slice none 0 0, .int .i64 (k : Nat)] w fun e w' => e = .returned (.int .u64 0) ∧ w = w' := by
  go_enter Tryd.func22, Tryd.ntmps22
  go_wp2
  go_ret
  exact ⟨rfl, rfl⟩
theorem rnumb_row (w : World) (g n : Nat) (zs : List Int) (h : RowI .u64 59 w g zs) (hn : zs.length = n) (hn2 : n ≤ 4194304) (k : Nat) (hk : k < n) : Calls Tryd.prog 22 #[.slice (some ⟨g, 0, none⟩) n n, .int .i64 (k : Nat)] w fun e w' => e = .returned (.int .u64 (zs.getD k 0)) ∧ w = w' := by
  have hc := h.cell k (by omega)
  generalize zs.getD k 0 = x at hc
  clear h hn
  go_enter Tryd.func22, Tryd.ntmps22
  go_wp2
  go_ret
  exact ⟨rfl, rfl⟩
/-- A number at a place. -/
theorem rnum_at (w : World) (a : Option Addr) (c : Nat) (b : List UInt8) (hs : SlI .u8 w a b.length c (nums b)) (P : Nat) (hP : P ≤ b.length) :
    ∃ (A : Option Addr) (L2 c2 v k : Nat) (er : Int), (if c = P then a else Option.map (fun x => x.add P) a) = A ∧ b.length - P = L2 ∧ c - P = c2 ∧ upS (nums b) P 0 mxU = (if er ≠ 0 then (0, P, er) else ((v : Int), P + k, 0)) ∧
      (v : Int) < 18446744073709551616 ∧ P + k ≤ b.length ∧ 0 ≤ er ∧ er ≤ 11 ∧ k ≤ 10 ∧ (er ≠ 0 → (v : Int) = 0) ∧
      Calls Tryd.prog 35 #[.slice A L2 c2] w fun e w' => e = .returned (.tuple #[.int .u64 (v : Nat), .int .i64 (k : Nat), .int .i64 er]) ∧ w = w' := by
  obtain ⟨v, k, er, h1, h2, h3, h4, h5, h6⟩ := ups_pk (nums b) P (by rw [nums_len]; exact hP)
  have htl := SlI.tail hs P hP
  have hN := number_calls w _ _ _ ((nums b).drop P) htl (fun x hx => nums_u8 b x (List.mem_of_mem_drop hx))
  rw [h1] at hN
  rw [nums_len] at h4
  refine ⟨_, _, _, v, k, er, rfl, rfl, rfl, h2, h3, h4, by omega, by omega, h6, fun he => ?_, hN⟩
  have : ∀ (l : List Int) (i : Nat) (n : Int), (pkF l i n).2.2 ≠ 0 → (pkF l i n).1 = 0 := by
    intro l
    induction l with
    | nil => intro i n _; simp [pkF]
    | cons x r ih =>
      intro i n
      simp only [pkF]
      split
      · simp
      · split
        · simp
        · exact ih _ _
  have := this ((nums b).drop P) 0 0
  have e1 : pkF ((nums b).drop P) 0 0 = ((v : Int), (k : Int), er) := h1
  rw [e1] at this
  exact this he
set_option maxRecDepth 100000 in
set_option maxHeartbeats 2000000 in
theorem rexact_calls (w : World) (a : Option Addr) (c : Nat) (b : List UInt8) (hs : SlI .u8 w a b.length c (nums b)) (P : Nat) (hP : P ≤ b.length) (s t : ByteArray) (hss : s.size ≤ 262144) (hts : t.size ≤ 262144) (hv : (upS (nums b) P 0 mxU).1 ≤ 262144) :
    Calls Tryd.prog 24 #[.slice a b.length c, .int .i64 (P : Nat), .string s, .string t] w fun e w' => e = .returned (.bool (decide ((upS (nums b) P 0 mxU).1 = (comN t.data.toList s.data.toList : Nat)))) ∧ ∃ m, w' = w.drewN m := by
  obtain ⟨A, L2, c2, v, k, er, hA, hL2, hc2, hu, hv3, hk, he0, he1, _, hz, hN⟩ := rnum_at w a c b hs P hP
  have hle := hs.le
  have hmx := hs.max
  have huv : (upS (nums b) P 0 mxU).1 = (v : Int) := by
    rw [hu]
    by_cases he : er = 0
    · rw [if_neg (by simp [he])]
    · rw [if_pos he]; exact (hz he).symm
  rw [huv] at hv ⊢
  have hcm := common_calls w s.data.toList t.data.toList (by rw [← Lib.size_eq]; omega) (by rw [← Lib.size_eq]; omega)
  rw [comN_comm] at hcm
  obtain ⟨C, hC⟩ : ∃ C, C = comN t.data.toList s.data.toList := ⟨_, rfl⟩
  rw [← hC] at hcm ⊢
  have hcm : Calls Tryd.prog 37 #[.string s, .string t] w fun e w' => e = .returned (.int .i64 (C : Nat)) ∧ ∃ m, w' = w.drewN m := hcm
  have hw : wrap64 (v : Int) = (v : Int) := by unfold wrap64; omega
  have HN := Lib.hid hN
  have HCM := Lib.hid hcm
  clear hN hcm hC hu huv hz hs
  go_enter Tryd.func24, Tryd.ntmps24
  go_wp2_with (first
    | (go_at_call 35; (with_reducible refine HN.out.mono ?_); rintro e wz ⟨rfl, rfl⟩)
    | (go_at_call 37; (with_reducible refine HCM.out.mono ?_); rintro e wy ⟨rfl, m, hm⟩))
  go_ret
  refine ⟨?_, m, rfl⟩
  rfl
end Go.Proofs.YtjgcmnppiaikcaaDoor
/- The document's entry. -/
namespace Go.Proofs.YtjgcmnppiaikcaaDoor
open Go.RowKit Go.Tk
theorem u64S {n : Nat} (h : n ≤ 262144) : IntKind.u64.wrap (n : Int) = (n : Int) := by rw [IntKind.wrap_u64]; omega
theorem u64S2 {a b : Nat} (h : a ≤ 262144) (h2 : b ≤ 262144) : IntKind.u64.wrap ((a : Int) + (b : Int)) = (a : Int) + (b : Int) := by rw [IntKind.wrap_u64]; omega
theorem shS {l a : Nat} (h : ¬ (l : Int) < (a : Int)) (h2 : l ≤ 262144) : a ≤ 262144 := by omega
theorem moS {a : Nat} (h : ¬ 262144 < (a : Int)) : a ≤ 262144 := by omega
theorem subD {l f : Nat} (h : f ≤ l) (h2 : l ≤ 100000000) : ∃ D : Nat, (l : Int) - (f : Int) = (D : Int) ∧ D ≤ 100000000 := ⟨l - f, by omega, by omega⟩
theorem smA {a b : Nat} (h : 262144 < a + b) : 262144 < (a : Int) + (b : Int) := by omega
theorem smB {a b : Nat} (h : 262144 < (a : Int) + (b : Int)) : 262144 < a + b := by omega
theorem i64S {n : Nat} (h : n ≤ 100000000) : IntKind.i64.wrap (n : Int) = (n : Int) := by rw [IntKind.wrap_i64]; omega
theorem w64S {n : Nat} (h : n ≤ 100000000) : wrap64 (n : Int) = (n : Int) := by unfold wrap64; omega
theorem flS {l f d m : Nat} (h : (l : Int) - (f : Int) = (d : Int)) (h2 : ¬ (d : Int) < (m : Int)) : f + m ≤ l := by omega
theorem drop_ups (b : List UInt8) (P j : Nat) (hP : P ≤ b.length) : upS (nums (b.drop P)) j 0 mxU = ((upS (nums b) (P + j) 0 mxU).1, (upS (nums b) (P + j) 0 mxU).2.1 - P, (upS (nums b) (P + j) 0 mxU).2.2) := by
  unfold upS
  rw [← nums_drop, List.drop_drop]
  by_cases h1 : (pk ((nums b).drop (P + j))).2.2 = 0
  · by_cases h2 : mxU < (pk ((nums b).drop (P + j))).1
    · simp [h1, h2]
    · simp [h1, h2, Nat.add_assoc]
  · simp [h1]
set_option maxRecDepth 100000 in
set_option maxHeartbeats 400000 in
theorem rentry_calls (w : World) (a : Option Addr) (c : Nat) (b : List UInt8) (hs : SlI .u8 w a b.length c (nums b)) (hbl : b.length ≤ 100000000) (P : Nat) (hP : P ≤ b.length) (first : Bool) (last : ByteArray) (hl : last.size ≤ 262144) :
    Calls Tryd.prog 23 #[.slice a b.length c, .int .i64 (P : Nat), .bool first, .string last] w fun e w' =>
      e = .returned (.tuple #[.string ⟨(entP b (P : Nat) first last.data.toList).1.toArray⟩, .int .i64 (entP b (P : Nat) first last.data.toList).2.1, .int .i64 (entP b (P : Nat) first last.data.toList).2.2]) ∧ ∃ m, w' = w.drewN m := by
  have hle := hs.le
  have hmx := hs.max
  -- the first number
  obtain ⟨A, L2, c2, v, k, er, hA, hL2, hc2, hu, hv3, hk, he0, he1, hk10, hz, hN⟩ := rnum_at w a c b hs P hP
  have hent : ∀ (sh k1 : Nat), (first = true → sh = 0 ∧ k1 = 0) → (first = false → er = 0 ∧ sh = v ∧ k1 = k) →
      entP b (P : Nat) first last.data.toList = (
          if (upS (nums b) (P + k1) 0 mxU).2.2 ≠ 0 then ([], 0, (upS (nums b) (P + k1) 0 mxU).2.2) else
          if (last.size : Int) < (sh : Int) then ([], 0, 161) else
          if 262144 < (upS (nums b) (P + k1) 0 mxU).1 ∨ 262144 < (sh : Int) + (upS (nums b) (P + k1) 0 mxU).1 then ([], 0, 2) else
          if (b.length : Int) - (upS (nums b) (P + k1) 0 mxU).2.1 < (upS (nums b) (P + k1) 0 mxU).1 then ([], 0, 10) else
          (last.data.toList.take sh ++ (b.drop (upS (nums b) (P + k1) 0 mxU).2.1).take (upS (nums b) (P + k1) 0 mxU).1.toNat, ((upS (nums b) (P + k1) 0 mxU).2.1 : Int) + (upS (nums b) (P + k1) 0 mxU).1, 0)) := by
    intro sh k1 hf1 hf2
    have hk1 : k1 ≤ k := by cases first with
      | true => have := (hf1 rfl).2; omega
      | false => have := (hf2 rfl).2.2; omega
    have hr := ups_range (nums b) (P + k1) 0 (by rw [nums_len]; omega)
    rw [nums_len] at hr
    have ht1 : (if first = true then ((0, 0, 0) : Int × Nat × Int) else upS (nums (b.drop P)) 0 0 mxU) = ((sh : Int), k1, 0) := by
      cases first with
      | true => obtain ⟨rfl, rfl⟩ := hf1 rfl; rfl
      | false =>
        obtain ⟨h1, rfl, rfl⟩ := hf2 rfl
        rw [if_neg (by simp), drop_ups b P 0 hP, Nat.add_zero, hu, h1, if_neg (by simp)]
        exact Prod.ext rfl (Prod.ext (by simp only; omega) rfl)
    have hdl : (nums (b.drop P)).length = b.length - P := by rw [nums_len, List.length_drop]
    unfold entP
    rw [if_neg (by omega)]
    simp only [Int.toNat_natCast, ht1, drop_ups b P k1 hP, hdl]
    rw [if_neg (by simp)]
    generalize upS (nums b) (P + k1) 0 mxU = t at hr
    obtain ⟨mo, i2, e2⟩ := t
    simp only at hr ⊢
    have hi2 : ((b.length - P : Nat) : Int) - ((i2 - P : Nat) : Int) = (b.length : Int) - (i2 : Int) := by omega
    rw [Lib.size_eq, hi2, List.drop_drop, show P + (i2 - P) = i2 by omega]
    split
    · rfl
    split
    · rfl
    split
    · rfl
    split
    · rfl
    · refine Prod.ext rfl (Prod.ext ?_ rfl)
      simp only; omega
  have HENT := Lib.hid hent
  have HN := Lib.hid hN
  have HU := Lib.hid hu
  have HS := Lib.hid hs
  clear hent hN hu hs hz
  go_enter Tryd.func23, Tryd.ntmps23
  by_cases herr : first = false ∧ er ≠ 0
  · obtain ⟨rfl, her⟩ := herr
    have e1 : (er != 0) = true := by simp [her]
    have he : entP b (P : Nat) false last.data.toList = ([], 0, er) := by
      unfold entP
      rw [if_neg (by omega)]
      simp only [Int.toNat_natCast, Bool.false_eq_true, if_false, drop_ups b P 0 hP, Nat.add_zero, HU.out]
      rw [if_pos her]
      simp only
      rw [if_pos her]
    have HE := Lib.hid he
    clear he her
    go_wp2_with (go_at_call 35; (with_reducible refine HN.out.mono ?_); rintro e wz ⟨rfl, rfl⟩)
    go_ret3
    exact ⟨by rw [HE.out]; rfl, 0, rfl⟩
  obtain ⟨sh, k1, hf1, hf2, hshv, hk1⟩ : ∃ sh k1 : Nat, (first = true → sh = 0 ∧ k1 = 0) ∧ (first = false → er = 0 ∧ sh = v ∧ k1 = k) ∧ (sh : Int) < 18446744073709551616 ∧ P + k1 ≤ b.length := by
    cases first with
    | true => exact ⟨0, 0, fun _ => ⟨rfl, rfl⟩, (fun h => by cases h), by omega, by omega⟩
    | false => exact ⟨v, k, (fun h => by cases h), fun _ => ⟨Classical.not_not.1 (fun h => herr ⟨rfl, h⟩), rfl, rfl⟩, hv3, hk⟩
  have HENT2 := Lib.hid (HENT.out sh k1 hf1 hf2)
  have HF1 := Lib.hid hf1
  have HF2 := Lib.hid hf2
  clear HENT hf1 hf2 herr
  obtain ⟨I1, hI1⟩ : ∃ I1, I1 = P + k1 := ⟨_, rfl⟩
  rw [← hI1] at HENT2 hk1
  have HI1 := Lib.hid hI1
  clear hI1
  go_upto_if 21 with fail
  go_cut [11, 12] from 22 (fun s11 s12 wx => s11 = .int .u64 (sh : Nat) ∧ s12 = .int .i64 (I1 : Nat) ∧ wx = w)
  case first =>
    cases first with
    | true =>
      obtain ⟨rfl, rfl⟩ := HF1.out rfl
      clear HF1 HF2 hA hL2 hc2 hv3 hshv hk hk1 he0 he1 hk10 HU HENT2 HN hP hl hbl hle hmx
      go_wp2
      go_meet
      exact ⟨rfl, by rw [HI1.out]; rfl, rfl⟩
    | false =>
      obtain ⟨rfl, rfl, rfl⟩ := HF2.out rfl
      clear HF1 HF2 hv3 hshv hk he0 he1 hk10 HU HENT2 hl
      have hI2 : (P : Int) + (k1 : Int) = (I1 : Int) := by have := HI1.out; omega
      go_wp2_with (go_at_call 35; (with_reducible refine HN.out.mono ?_); rintro e wz ⟨rfl, rfl⟩)
      go_meet
      exact ⟨rfl, rfl, rfl⟩
  case rest =>
    obtain ⟨rfl, rfl, hwc⟩ := hcut
    subst hwc
    clear HN hA hL2 hc2 HU hv3 hk he0 he1 hk10
    obtain ⟨A, L2, c2, mo, k2, er2, hA, hL2, hc2, hu, hv3, hk, he0, he1, hk10, hz, hN⟩ := rnum_at wc a c b HS.out I1 hk1
    have HN := Lib.hid hN
    have he := HENT2.out
    rw [hu] at he
    have HFA := Lib.hid (show (mo : Int) < 18446744073709551616 ∧ (sh : Int) < 18446744073709551616 ∧ I1 + k2 ≤ b.length ∧ b.length ≤ 100000000 ∧ last.size ≤ 262144 ∧ b.length ≤ c ∧ c ≤ 9223372036854775807 ∧ 0 ≤ er2 from ⟨hv3, hshv, hk, hbl, hl, hle, hmx, he0⟩)
    have HEE := Lib.hid he
    clear hN hu hz HENT2 hv3 hshv hk he0 he1 hk10 hl hP he
    go_upto_region 10 with (go_at_call 35; (with_reducible refine HN.out.mono ?_); rintro e wz ⟨rfl, rfl⟩)
    clear hA hL2 hc2 HN hbl hle hmx hk1
    have he := HEE.out
    clear HEE
    by_cases he2 : er2 = 0
    rotate_left
    · have ee : (er2 != 0) = true := by simp [he2]
      rw [if_pos he2] at he
      simp only at he
      rw [if_pos he2] at he
      have HE2 := Lib.hid he
      clear he he2
      go_wp2
      go_ret3
      exact ⟨by rw [HE2.out]; rfl, 0, rfl⟩
    subst he2
    simp only [ne_eq, not_true_eq_false, eq_self, if_false] at he
    obtain ⟨F, hF⟩ : ∃ F, F = I1 + k2 := ⟨_, rfl⟩
    have hF2 : (I1 : Int) + (k2 : Int) = (F : Int) := by omega
    rw [← hF] at he
    have HFF := Lib.hid hF
    clear hF
    obtain ⟨v1, v2, v3, v4, v5, v6, v7, _⟩ := HFA.out
    rw [← HFF.out] at v3
    have hls : wrap64 (last.size : Int) = (last.size : Int) := wrap64_small v5
    have hlsu : IntKind.u64.wrap (last.size : Int) = (last.size : Int) := u64S v5
    have HV := Lib.hid (show (mo : Int) < 18446744073709551616 ∧ (sh : Int) < 18446744073709551616 ∧ F ≤ b.length ∧ b.length ≤ 100000000 ∧ last.size ≤ 262144 ∧ b.length ≤ c ∧ c ≤ 9223372036854775807 from ⟨v1, v2, v3, v4, v5, v6, v7⟩)
    obtain ⟨D, hbd, hDb⟩ := subD v3 v4
    have hFw1 : IntKind.i64.wrap (F : Int) = (F : Int) := i64S (Nat.le_trans v3 v4)
    have hFw2 : wrap64 (F : Int) = (F : Int) := w64S (Nat.le_trans v3 v4)
    have hDw1 : IntKind.i64.wrap (D : Int) = (D : Int) := i64S hDb
    have hDw2 : wrap64 (D : Int) = (D : Int) := w64S hDb
    rw [hbd] at he
    have HBD := Lib.hid hbd
    have HEX := Lib.hid he
    clear hbd v1 v2 v3 v4 v5 v6 v7 he
    by_cases hsh : (last.size : Int) < (sh : Int)
    · have he := HEX.out
      rw [if_pos hsh] at he
      have ee : decide ((last.size : Int) < (sh : Int)) = true := decide_eq_true hsh
      have een : decide (last.size < sh) = true := decide_eq_true (Int.ofNat_lt.1 hsh)
      have HE2 := Lib.hid he
      clear he hsh
      go_wp2
      go_ret3
      exact ⟨by rw [HE2.out]; rfl, 0, rfl⟩
    have es : decide ((last.size : Int) < (sh : Int)) = false := decide_eq_false hsh
    have esn : decide (last.size < sh) = false := decide_eq_false (fun h => hsh (Int.ofNat_lt.2 h))
    have HSH := Lib.hid hsh
    clear hsh
    by_cases hmo : 262144 < (mo : Int)
    · have he := HEX.out
      rw [if_neg HSH.out, if_pos (.inl hmo)] at he
      have em : decide ((262144 : Int) < (mo : Int)) = true := decide_eq_true hmo
      have emn : decide (262144 < mo) = true := decide_eq_true (Int.ofNat_lt.1 hmo)
      have HE2 := Lib.hid he
      clear he hmo
      go_wp2
      go_ret3
      exact ⟨by rw [HE2.out]; rfl, 0, rfl⟩
    have em : decide ((262144 : Int) < (mo : Int)) = false := decide_eq_false hmo
    have emn : decide (262144 < mo) = false := decide_eq_false (fun h => hmo (Int.ofNat_lt.2 h))
    have HMO := Lib.hid hmo
    have hsmw : IntKind.u64.wrap ((sh : Int) + (mo : Int)) = (sh : Int) + (mo : Int) := u64S2 (shS HSH.out HV.out.2.2.2.2.1) (moS hmo)
    clear hmo
    by_cases hsm : 262144 < (sh : Int) + (mo : Int)
    · have he := HEX.out
      rw [if_neg HSH.out, if_pos (.inr hsm)] at he
      have em2 : decide ((262144 : Int) < (sh : Int) + (mo : Int)) = true := decide_eq_true hsm
      have em2n : decide (262144 < sh + mo) = true := decide_eq_true (smB hsm)
      have HE2 := Lib.hid he
      clear he hsm
      go_wp2
      go_ret3
      exact ⟨by rw [HE2.out]; rfl, 0, rfl⟩
    have em2 : decide ((262144 : Int) < (sh : Int) + (mo : Int)) = false := decide_eq_false hsm
    have em2n : decide (262144 < sh + mo) = false := decide_eq_false (fun h => hsm (smA h))
    have hmw0 : mo ≤ 262144 := moS HMO.out
    have HSM := Lib.hid hsm
    clear hsm
    have hmw : wrap64 (mo : Int) = (mo : Int) := wrap64_small hmw0
    clear hmw0
    have hbd := HBD.out
    by_cases hlf : (D : Int) < (mo : Int)
    · have he := HEX.out
      rw [if_neg HSH.out, if_neg (fun h => h.elim HMO.out HSM.out), if_pos hlf] at he
      have ef : decide ((D : Int) < (mo : Int)) = true := decide_eq_true hlf
      have efn : decide (D < mo) = true := decide_eq_true (Int.ofNat_lt.1 hlf)
      have HE2 := Lib.hid he
      clear he hlf
      go_wp2
      go_ret3
      exact ⟨by rw [HE2.out]; rfl, 0, rfl⟩
    have he := HEX.out
    rw [if_neg HSH.out, if_neg (fun h => h.elim HMO.out HSM.out), if_neg hlf] at he
    have ef : decide ((D : Int) < (mo : Int)) = false := decide_eq_false hlf
    have efn : decide (D < mo) = false := decide_eq_false (fun h => hlf (Int.ofNat_lt.2 h))
    rw [Int.toNat_natCast] at he
    have hsh := HSH.out
    have hmo := HMO.out
    have hsm := HSM.out
    obtain ⟨v1, v2, v3, v4, v5, v6, v7⟩ := HV.out
    have HE2 := Lib.hid he
    have hFl : F + mo ≤ b.length := flS hbd hlf
    have hSl : sh ≤ last.size := Int.ofNat_le.1 (Int.not_lt.1 hsh)
    have hMb : mo ≤ 262144 := moS hmo
    have hSb : sh ≤ 262144 := shS hsh v5
    have hFb : F ≤ 100000000 := Nat.le_trans v3 v4
    have hct := SlI.cut HS.out F mo hFl
    rw [nums_drop, nums_take, nb6 F mo] at hct
    obtain ⟨A4, hA4⟩ : ∃ A4, A4 = (if c = F then a else Option.map (fun x => x.add F) a) := ⟨_, rfl⟩
    rw [← hA4] at hct
    obtain ⟨ub, hub⟩ : ∃ ub, ub = (b.drop F).take mo := ⟨_, rfl⟩
    have hubl : ub.length = mo := by rw [hub]; exact nb7 hFl
    rw [← hub] at hct HE2
    obtain ⟨lx, hlx⟩ : ∃ lx : ByteArray, lx = last.extract 0 sh := ⟨_, rfl⟩
    have hlx2 : lx = ⟨(last.data.toList.take sh).toArray⟩ := by rw [hlx, extract_takeD]
    have hcv : ∀ m, (convert 22 9 (.slice A4 mo (c - F))).run Tryd.prog (wc.drewN m) = .ok (.string ⟨ub.toArray⟩) (wc.drewN m) := fun m => by
      have h6 := hct.drewN m
      rw [← hubl] at h6 ⊢
      exact SlI.bytesD Tryd.underlying22 Tryd.underlying5 Tryd.underlying9 h6
    have hadd : ∀ X : World, (Op.stringOp .add lx ⟨ub.toArray⟩).run Tryd.prog X = .ok (.string ⟨(last.data.toList.take sh ++ ub).toArray⟩) X := fun X => by
      rw [hlx2]
      exact run_string_add_lists (P := Tryd.prog) (w := X) _ _ (nb8 hSb) (by rw [hubl]; exact nb9 hMb)
    obtain ⟨uy, huy⟩ : ∃ uy : ByteArray, uy = ⟨ub.toArray⟩ := ⟨_, rfl⟩
    rw [← huy] at hcv hadd
    obtain ⟨xy, hxy⟩ : ∃ xy : ByteArray, xy = ⟨(last.data.toList.take sh ++ ub).toArray⟩ := ⟨_, rfl⟩
    rw [← hxy] at hadd
    have hlx' := hlx.symm
    have hA4' := hA4.symm
    obtain ⟨c4, hc4⟩ : ∃ c4, c4 = c - F := ⟨_, rfl⟩
    rw [← hc4] at hcv
    have hc4' := hc4.symm
    obtain ⟨T, hT⟩ : ∃ T, T = F + mo := ⟨_, rfl⟩
    have hFe : T ≤ c := by rw [hT]; exact Nat.le_trans hFl v6
    have hsubF : T - F = mo := by rw [hT]; exact nb6 F mo
    have hFM : F ≤ T := by rw [hT]; exact Nat.le_add_right _ _
    have hw1 : IntKind.i64.wrap (mo : Int) = (mo : Int) := nbw1 hMb
    have hw2 : IntKind.i64.wrap ((F : Int) + (mo : Int)) = (T : Int) := by rw [hT]; exact nbwO hFb hMb
    have HT := Lib.hid hT
    have HXY := Lib.hid hxy
    have HCV := Lib.hid hcv
    have HADD := Lib.hid hadd
    have HA4 := Lib.hid hA4'
    have HLX := Lib.hid hlx'
    have HC4x := Lib.hid hc4'
    have HFe := Lib.hid hFe
    have HsF := Lib.hid hsubF
    have HFM := Lib.hid hFM
    have HW1 := Lib.hid hw1
    have HW2 := Lib.hid hw2
    clear hT hxy hcv hadd hA4' hlx' hc4' hFe hsubF hFM hw1 hw2 hct hA4 hub hubl hlx hlx2 huy hc4 he hsh hmo hsm v1 v2 v3 v4 v5 v6 v7 hlf hFl
    clear hMb hSb hFb
    go_upto_region 19 with fail
    clear hbd hDb hDw1 hDw2 hFw1 hFw2 hls hlsu es esn em emn em2 em2n ef efn hsmw hF2
    have hcv := HCV.out
    have hadd := HADD.out
    have hA4' := HA4.out
    have hlx' := HLX.out
    have hc4' := HC4x.out
    have hFe := HFe.out
    have hsubF := HsF.out
    have hFM := HFM.out
    have hw1 := HW1.out
    have hw2 := HW2.out
    go_quiet (fail)
    go_wp2
    go_ret3
    refine ⟨?_, _, rfl⟩
    rw [HE2.out, HXY.out]
    simp only
    rw [HT.out, Int.natCast_add]
    rfl
end Go.Proofs.YtjgcmnppiaikcaaDoor
