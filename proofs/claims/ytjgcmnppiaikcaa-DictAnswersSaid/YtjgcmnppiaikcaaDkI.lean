/- Get, of a dictionary of any bytes. -/
import Derived.Test.YtjgcmnppiaikcaaDkF
import Derived.Test.YtjgcmnppiaikcaaPkBx
import Derived.Outline
import Derived.Sort.QuietTacIn
set_option linter.unusedVariables false
set_option linter.unusedSimpArgs false
namespace Go.Tk
open Go Go.RowKit
/-- The frame of a round is this one. -/
def axOf {α : Type} (fr : α → Act) : α → Act → World → Prop := fun x a' _ => a' = fr x
theorem axOf_intro {α : Type} {fr : α → Act} {x : α} {a' : Act} {W : World} (h : fr x = a') : axOf fr x a' W := h.symm
theorem axOf_own {α : Type} {B : Nat} (fr : α → Act) (x : α) (a' : Act) : OwnFrom B (fun (_ : Unit) W => axOf fr x a' W) := fun _ _ _ _ h _ _ => h
theorem leaves0 {F : Fence} {n : Nat} {P : Program} {fn : Func} {R : Ending → World → Prop} {a : Act} {W : World} {v : Value}
    (h : a.defers = []) (hres : (results fn a.tmps).run P W = .ok v W) (hR : R (.returned v) W) : LeavesInM F n P fn a.tmps R a.defers .returning W := by
  rw [h]
  exact ⟨_, hres, hR⟩
theorem find_at {L : List (Nat × List UInt8)} {i : Int} {base : Nat} (hat : ∀ j (h : j < L.length), L[j].1 = base + j) (x : Fin L.length) (hx : ((L[x.val].1 : Nat) : Int) = i) : L.find? (fun y => decide ((y.1 : Int) = i)) = some L[x.val] := by
  cases hf : L.find? (fun y => decide ((y.1 : Int) = i)) with
  | none =>
    have := List.find?_eq_none.1 hf L[x.val] (List.getElem_mem x.isLt)
    exact absurd hx (by simpa using this)
  | some y =>
    have h1 := List.find?_some hf
    obtain ⟨k, hk, rfl⟩ := List.mem_iff_getElem.1 (List.mem_of_find?_eq_some hf)
    have h2 : ((L[k].1 : Nat) : Int) = i := by simpa using h1
    have h3 := hat k hk
    have h4 := hat x.val x.isLt
    have : k = x.val := by omega
    simp only [this]
theorem find_none {L : List (Nat × List UInt8)} {i : Int} (h : ∀ x : Fin L.length, ((L[x.val].1 : Nat) : Int) ≠ i) : L.find? (fun y => decide ((y.1 : Int) = i)) = none := by
  rw [List.find?_eq_none]
  intro y hy
  obtain ⟨k, hk, rfl⟩ := List.mem_iff_getElem.1 hy
  simpa using h ⟨k, hk⟩
end Go.Tk
namespace Go.Proofs.Ytjgcmnppiaikcaa
open Go.RowKit Go.Shelf Go.Tk
attribute [local go_sem] Oper.semAt_some
/-- What Get says. -/
def getF (pz : List Int) (wd : Nat) (eb : List UInt8) (n : Nat) (i : Int) : List UInt8 × Bool :=
  if i < 0 ∨ (n : Int) ≤ i then ([], false) else
  match (blkN pz wd eb n (i.toNat / 16)).find? (fun x => decide ((x.1 : Int) = i)) with
  | some x => (x.2, true)
  | none => ([], false)
set_option maxRecDepth 100000 in
set_option maxHeartbeats 2000000 in
theorem get_calls (w : World) (gd n wd : Nat) (pa : Option Addr) (pc : Nat) (pz : List Int) (ea : Option Addr) (ec : Nat) (eb : List UInt8) (h : DictM w gd n wd pa pc pz ea ec (nums eb)) (i : Int) (hi : -9223372036854775808 ≤ i ∧ i ≤ 9223372036854775807) :
    Calls Try.prog 25 #[.pointer (some ⟨gd, 0, none⟩), .int .i64 i] w fun e w' => e = .returned (.tuple #[.string ⟨(getF pz wd eb n i).1.toArray⟩, .bool (getF pz wd eb n i).2]) ∧ Below w.heap.size w w' := by
  have c0 := h.c0
  have hnN := h.nN
  have hgl : gd < w.heap.size := (Array.getElem?_eq_some_iff.1 h.row).1
  by_cases hlo : i < 0
  · have hg : getF pz wd eb n i = ([], false) := if_pos (.inl hlo)
    have HG := Lib.hid hg
    have d1 : decide (i < 0) = true := decide_eq_true hlo
    clear hg h
    refine (callsIn_wide (n := 6)).1 ?_
    refine callsIn_of_wp_marks Try.func25 rfl trivial ?_ rfl
    simp only [Try.ntmps25, List.size_toArray, List.length_cons, List.length_nil, Nat.reduceAdd, Nat.reduceSub, Array.replicate_succ, Array.replicate_zero, List.push_toArray, List.append_toArray, List.nil_append, List.cons_append]
    gi_wp2
    have b3 := ((Boxed.new w 3 (.int .i64 i)).alloc (.cells #[.string ⟨#[]⟩] 9)).alloc (.cells #[.bool false] 4)
    have b4 := (Boxed.new (w.alloc (.cells #[.int .i64 i] 3)) 9 (.string ⟨#[]⟩)).alloc (.cells #[.bool false] 4)
    have b5 := Boxed.new ((w.alloc (.cells #[.int .i64 i] 3)).alloc (.cells #[.string ⟨#[]⟩] 9)) 4 (.bool false)
    have hB : Below w.heap.size w (((w.alloc (.cells #[.int .i64 i] 3)).alloc (.cells #[.string ⟨#[]⟩] 9)).alloc (.cells #[.bool false] 4)) := (((Below.refl _ w).alloc (Nat.le_refl _) _).alloc (by simp) _).alloc (by simp; omega) _
    have hsz : (((w.alloc (.cells #[.int .i64 i] 3)).alloc (.cells #[.string ⟨#[]⟩] 9)).alloc (.cells #[.bool false] 4)).heap.size = w.heap.size + 3 := by simp
    simp only [World.size_alloc, Nat.add_assoc, Nat.reduceAdd] at b4 b5 ⊢
    generalize (((w.alloc (.cells #[.int .i64 i] 3)).alloc (.cells #[.string ⟨#[]⟩] 9)).alloc (.cells #[.bool false] 4)) = W0 at b3 b4 b5 hB hsz ⊢
    have h3 := b3.cell
    have h4 := b4.cell
    have h5 := b5.cell
    have f4 := frozen_of_row _ _ 0 _ _ b4
    have f5 := frozen_of_row _ _ 0 _ _ b5
    have h0 := (hB.cell (p := ⟨gd, 0, none⟩) hgl).trans c0
    have B3 := Lib.hid b3
    have B4 := Lib.hid b4
    have B5 := Lib.hid b5
    have HB := Lib.hid hB
    clear b3 b4 b5 hB c0
    gi_quiet_th (fail)
    gi_wp2
    have k4 : Boxed (W0.drewN nq) (w.heap.size + 1) 9 (.string ⟨#[]⟩) := B4.out
    have k5 : Boxed (W0.drewN nq) (w.heap.size + 2) 4 (.bool false) := B5.out
    have m4 := ((k4.set (.string ⟨#[]⟩)).other (B' := w.heap.size + 2) (by omega) (.bool false)).cell
    have m5 := ((k5.other (B' := w.heap.size + 1) (by omega) (.string ⟨#[]⟩)).set (.bool false)).cell
    have hBF := ((below_drewN HB.out nq).setCell (p := ⟨w.heap.size + 1, 0, none⟩) (Nat.le_add_right _ _) (.string ⟨#[]⟩)).setCell (p := ⟨w.heap.size + 2, 0, none⟩) (Nat.le_add_right _ _) (.bool false)
    rw [HG.out]
    exact leaves0 (a := { tmps := _, defers := [] }) rfl (by simp [results, Try.results25, go_sem, m4, m5]) ⟨rfl, hBF⟩
  · have d1 : decide (i < 0) = false := decide_eq_false hlo
    have hlo' : 0 ≤ i := by omega
    by_cases hhi : (n : Int) ≤ i
    · have hg : getF pz wd eb n i = ([], false) := if_pos (.inr hhi)
      have HG := Lib.hid hg
      have d2 : decide ((n : Int) ≤ i) = true := decide_eq_true hhi
      clear hg h
      refine (callsIn_wide (n := 6)).1 ?_
      refine callsIn_of_wp_marks Try.func25 rfl trivial ?_ rfl
      simp only [Try.ntmps25, List.size_toArray, List.length_cons, List.length_nil, Nat.reduceAdd, Nat.reduceSub, Array.replicate_succ, Array.replicate_zero, List.push_toArray, List.append_toArray, List.nil_append, List.cons_append]
      gi_wp2
      have b3 := ((Boxed.new w 3 (.int .i64 i)).alloc (.cells #[.string ⟨#[]⟩] 9)).alloc (.cells #[.bool false] 4)
      have b4 := (Boxed.new (w.alloc (.cells #[.int .i64 i] 3)) 9 (.string ⟨#[]⟩)).alloc (.cells #[.bool false] 4)
      have b5 := Boxed.new ((w.alloc (.cells #[.int .i64 i] 3)).alloc (.cells #[.string ⟨#[]⟩] 9)) 4 (.bool false)
      have hB : Below w.heap.size w (((w.alloc (.cells #[.int .i64 i] 3)).alloc (.cells #[.string ⟨#[]⟩] 9)).alloc (.cells #[.bool false] 4)) := (((Below.refl _ w).alloc (Nat.le_refl _) _).alloc (by simp) _).alloc (by simp; omega) _
      have hsz : (((w.alloc (.cells #[.int .i64 i] 3)).alloc (.cells #[.string ⟨#[]⟩] 9)).alloc (.cells #[.bool false] 4)).heap.size = w.heap.size + 3 := by simp
      simp only [World.size_alloc, Nat.add_assoc, Nat.reduceAdd] at b4 b5 ⊢
      generalize (((w.alloc (.cells #[.int .i64 i] 3)).alloc (.cells #[.string ⟨#[]⟩] 9)).alloc (.cells #[.bool false] 4)) = W0 at b3 b4 b5 hB hsz ⊢
      have h3 := b3.cell
      have h4 := b4.cell
      have h5 := b5.cell
      have f4 := frozen_of_row _ _ 0 _ _ b4
      have f5 := frozen_of_row _ _ 0 _ _ b5
      have h0 := (hB.cell (p := ⟨gd, 0, none⟩) hgl).trans c0
      have B3 := Lib.hid b3
      have B4 := Lib.hid b4
      have B5 := Lib.hid b5
      have HB := Lib.hid hB
      clear b3 b4 b5 hB c0
      gi_quiet_th (fail)
      gi_wp2
      have k4 : Boxed (W0.drewN nq) (w.heap.size + 1) 9 (.string ⟨#[]⟩) := B4.out
      have k5 : Boxed (W0.drewN nq) (w.heap.size + 2) 4 (.bool false) := B5.out
      have m4 := ((k4.set (.string ⟨#[]⟩)).other (B' := w.heap.size + 2) (by omega) (.bool false)).cell
      have m5 := ((k5.other (B' := w.heap.size + 1) (by omega) (.string ⟨#[]⟩)).set (.bool false)).cell
      have hBF := ((below_drewN HB.out nq).setCell (p := ⟨w.heap.size + 1, 0, none⟩) (Nat.le_add_right _ _) (.string ⟨#[]⟩)).setCell (p := ⟨w.heap.size + 2, 0, none⟩) (Nat.le_add_right _ _) (.bool false)
      rw [HG.out]
      exact leaves0 (a := { tmps := _, defers := [] }) rfl (by simp [results, Try.results25, go_sem, m4, m5]) ⟨rfl, hBF⟩
    · obtain ⟨q, hq⟩ : ∃ q : Nat, q = i.toNat / 16 := ⟨_, rfl⟩
      obtain ⟨L, hL⟩ : ∃ L, L = blkN pz wd eb n q := ⟨_, rfl⟩
      have hg : getF pz wd eb n i = match L.find? (fun x => decide ((x.1 : Int) = i)) with
          | some x => (x.2, true)
          | none => ([], false) := by unfold getF; rw [if_neg (by omega), hL, hq]
      have hqn : q < (n + 15) / 16 := by omega
      have hi1 : decide ((n : Int) ≤ i) = false := decide_eq_false hhi
      have hi2 : i < (n : Int) := by omega
      have hdiv : i / 16 = (q : Int) := by omega
      have hstops : ∀ (k : Nat) (W : World), 1 ≤ k → W.heap[w.heap.size + 3]? = some (.cells #[.pointer (some ⟨gd, 0, none⟩)] 38 (0, 0)) → W.heap[w.heap.size + 4]? = some (.cells #[.int .i64 (q : Nat)] 3 (0, 0)) → w.heap.size ≤ W.heap.size → (∀ j, j < w.heap.size → W.heap[j]? = w.heap[j]?) →
          SeqStopsK Fence.wide k Try.prog 72 #[.pointer (some ⟨w.heap.size + 3, 0, none⟩), .pointer (some ⟨w.heap.size + 4, 0, none⟩)] (fun i : Fin L.length => encK L[i.val]) (KpD w (w.heap.size + 3) (w.heap.size + 4)) (fun ys => ys = List.finRange L.length) (fun pre => pre <+: List.finRange L.length) L.length W :=
        fun k W hk hp1 hp2 hsz hsm => blockF_in k hk w gd n wd pa pc pz ea ec eb h (w.heap.size + 3) (w.heap.size + 4) q hqn L hL W hp1 hp2 hsz hsm
      have hat : ∀ j (h : j < L.length), L[j].1 = 16 * q + j := by
        intro j hj
        subst hL
        exact (bkF_at eb n 16 (16 * q) _ [] j hj).1
      obtain ⟨gv, hgv⟩ : ∃ gv, gv = getF pz wd eb n i := ⟨_, rfl⟩
      obtain ⟨gs, gb⟩ := gv
      rw [← hgv] at hg ⊢
      have hyes : ∀ x : Fin L.length, ((L[x.val].1 : Nat) : Int) = i → L[x.val].2 = gs ∧ gb = true := by
        intro x hx
        rw [find_at hat x hx] at hg
        simp only [Prod.mk.injEq] at hg
        exact ⟨hg.1.symm, hg.2⟩
      have hno : (∀ x : Fin L.length, ((L[x.val].1 : Nat) : Int) ≠ i) → gs = [] ∧ gb = false := by
        intro hx
        rw [find_none hx] at hg
        simp only [Prod.mk.injEq] at hg
        exact hg
      have HST := Lib.hid hstops
      have HYES := Lib.hid hyes
      have HNO := Lib.hid hno
      clear hg hgv hyes hno hat hstops hL hq h
      refine (callsIn_wide (n := 6)).1 ?_
      refine callsIn_of_wp_marks Try.func25 rfl trivial ?_ rfl
      simp only [Try.ntmps25, List.size_toArray, List.length_cons, List.length_nil, Nat.reduceAdd, Nat.reduceSub, Array.replicate_succ, Array.replicate_zero, List.push_toArray, List.append_toArray, List.nil_append, List.cons_append]
      gi_wp2
      have b3 := ((Boxed.new w 3 (.int .i64 i)).alloc (.cells #[.string ⟨#[]⟩] 9)).alloc (.cells #[.bool false] 4)
      have b4 := (Boxed.new (w.alloc (.cells #[.int .i64 i] 3)) 9 (.string ⟨#[]⟩)).alloc (.cells #[.bool false] 4)
      have b5 := Boxed.new ((w.alloc (.cells #[.int .i64 i] 3)).alloc (.cells #[.string ⟨#[]⟩] 9)) 4 (.bool false)
      have hB : Below w.heap.size w (((w.alloc (.cells #[.int .i64 i] 3)).alloc (.cells #[.string ⟨#[]⟩] 9)).alloc (.cells #[.bool false] 4)) := (((Below.refl _ w).alloc (Nat.le_refl _) _).alloc (by simp) _).alloc (by simp; omega) _
      have hsz : (((w.alloc (.cells #[.int .i64 i] 3)).alloc (.cells #[.string ⟨#[]⟩] 9)).alloc (.cells #[.bool false] 4)).heap.size = w.heap.size + 3 := by simp
      simp only [World.size_alloc, Nat.add_assoc, Nat.reduceAdd] at b4 b5 ⊢
      generalize (((w.alloc (.cells #[.int .i64 i] 3)).alloc (.cells #[.string ⟨#[]⟩] 9)).alloc (.cells #[.bool false] 4)) = W0 at b3 b4 b5 hB hsz ⊢
      have h3 := b3.cell
      have h4 := b4.cell
      have h5 := b5.cell
      have f4 := frozen_of_row _ _ 0 _ _ b4
      have f5 := frozen_of_row _ _ 0 _ _ b5
      have h0 := (hB.cell (p := ⟨gd, 0, none⟩) hgl).trans c0
      have B3 := Lib.hid b3
      have B4 := Lib.hid b4
      have B5 := Lib.hid b5
      have HB := Lib.hid hB
      clear b3 b4 b5 hB c0
      gi_quiet_th (fail)
      gi_wp2_with (refine ⟨trivial, ?_⟩; gi_at_call 53; refine (block_in _ _ _ _).mono ?_; rintro e w' ⟨rfl, rfl⟩)
      have hBq : Below w.heap.size w (W0.drewN nq) := below_drewN HB.out nq
      have z1 : (W0.drewN nq).heap.size = w.heap.size + 3 := hsz
      have p1 := ((Boxed.new (W0.drewN nq) 38 (.pointer (some ⟨gd, 0, none⟩))).alloc (.cells #[.int .i64 (q : Nat)] 3))
      have p2 := Boxed.new ((W0.drewN nq).alloc (.cells #[.pointer (some ⟨gd, 0, none⟩)] 38)) 3 (.int .i64 (q : Nat))
      have k3 : Boxed (W0.drewN nq) w.heap.size 3 (.int .i64 i) := B3.out
      have k4 : Boxed (W0.drewN nq) (w.heap.size + 1) 9 (.string ⟨#[]⟩) := B4.out
      have k5 : Boxed (W0.drewN nq) (w.heap.size + 2) 4 (.bool false) := B5.out
      replace k3 := (k3.alloc (.cells #[.pointer (some ⟨gd, 0, none⟩)] 38)).alloc (.cells #[.int .i64 (q : Nat)] 3)
      replace k4 := (k4.alloc (.cells #[.pointer (some ⟨gd, 0, none⟩)] 38)).alloc (.cells #[.int .i64 (q : Nat)] 3)
      replace k5 := (k5.alloc (.cells #[.pointer (some ⟨gd, 0, none⟩)] 38)).alloc (.cells #[.int .i64 (q : Nat)] 3)
      have hB1 := (hBq.alloc (by omega) (.cells #[.pointer (some ⟨gd, 0, none⟩)] 38)).alloc (by simp; omega) (.cells #[.int .i64 (q : Nat)] 3)
      have hz1 : (((W0.drewN nq).alloc (.cells #[.pointer (some ⟨gd, 0, none⟩)] 38)).alloc (.cells #[.int .i64 (q : Nat)] 3)).heap.size = w.heap.size + 5 := by simp [hsz]
      simp only [World.size_alloc, z1, Nat.add_assoc, Nat.reduceAdd] at p1 p2 ⊢
      generalize (((W0.drewN nq).alloc (.cells #[.pointer (some ⟨gd, 0, none⟩)] 38)).alloc (.cells #[.int .i64 (q : Nat)] 3)) = W1 at p1 p2 k3 k4 k5 hB1 hz1 ⊢
      clear hBq z1 B3 B4 B5 HB h3 h4 h5 f4 f5 h0 hsz
      rename_i Q1 K1 a1
      refine wpIn_rangeFunc_ownH (α := Fin L.length) rfl (by omega) (gf := 72) (lb := #[.pointer (some ⟨w.heap.size + 3, 0, none⟩), .pointer (some ⟨w.heap.size + 4, 0, none⟩)]) rfl trivial (enters_of Try.func72 (by kernel_rfl) rfl)
        (HST.out 5 W1 (by omega) p1 p2 hB1.size (fun j hj => hB1.block j hj)) (fun h k => fun j hj => (k j hj).trans (h j hj)) (fun W l o o' hl h1 h2 h3 => fun j hj => World.putObj_heap_other (by omega)) (Below.refl _ _) (fun _ => rfl)
        (fun pre W => (∀ x ∈ pre, ((L[x.val].1 : Nat) : Int) ≠ i) ∧ Boxed W w.heap.size 3 (.int .i64 i) ∧ Boxed W (w.heap.size + 1) 9 (.string ⟨#[]⟩) ∧ Boxed W (w.heap.size + 2) 4 (.bool false) ∧ Below w.heap.size w W)
        (fun c pre W => (c = .ret ∧ gb = true) ∧ Boxed W (w.heap.size + 1) 9 (.string ⟨gs.toArray⟩) ∧ Boxed W (w.heap.size + 2) 4 (.bool true) ∧ Below w.heap.size w W)
        (OwnFrom.and (ownFrom_pure _ (fun (pre : List (Fin L.length)) => ∀ x ∈ pre, ((L[x.val].1 : Nat) : Int) ≠ i)) (OwnFrom.and (Own.from (boxed_own _ _ _) _) (OwnFrom.and (Own.from (boxed_own _ _ _) _) (OwnFrom.and (Own.from (boxed_own _ _ _) _) (ownFrom_below (Nat.le_refl _) (by omega))))))
        (fun c => OwnFrom.and (ownFrom_pure _ (fun _ => c = .ret ∧ gb = true)) (OwnFrom.and (Own.from (boxed_own _ _ _) _) (OwnFrom.and (Own.from (boxed_own _ _ _) _) (ownFrom_below (Nat.le_refl _) (by omega)))))
        ⟨(fun x hx => by cases hx), k3, k4, k5, hB1⟩
        (axOf ?fr) (axOf_own _) ?assign ?body ?done ?stop
      case assign =>
        intro l pre x X K hI hK
        unfold encK
        gi_wp2
        refine hK _ _ (KeepsFrom.refl _ _) (fun j hj => rfl) hI ?_
        refine axOf_intro ?_
        exact Eq.refl _
      case body =>
        rintro l pre x a' X hl ⟨r0, hr0⟩ ⟨hpre, c3, c4, c5, hBX⟩ rfl hlt
        have h3 := c3.cell
        have h4 := c4.cell
        have h5 := c5.cell
        have f4 := frozen_of_row _ _ 0 _ _ c4
        have f5 := frozen_of_row _ _ 0 _ _ c5
        have hyes := HYES.out x
        have hsn : ∀ (h : ((L[x.val].1 : Nat) : Int) ≠ i), ∀ y ∈ pre ++ [x], ((L[y.val].1 : Nat) : Int) ≠ i := by
          intro h y hy
          rcases List.mem_append.1 hy with hy | hy
          · exact hpre y hy
          · obtain rfl := List.mem_singleton.1 hy; exact h
        have HSN := Lib.hid hsn
        clear hsn hpre
        obtain ⟨kx, hkx⟩ : ∃ kx, kx = L[x.val].1 := ⟨_, rfl⟩
        obtain ⟨sx, hsx⟩ : ∃ sx : ByteArray, sx = ⟨L[x.val].2.toArray⟩ := ⟨_, rfl⟩
        rw [← hkx] at hyes
        dsimp only
        rw [← hkx, ← hsx]
        by_cases he : ((kx : Nat) : Int) = i
        · have hy := hyes he
          have e1 : (((kx : Nat) : Int) == i) = true := by simpa using he
          obtain ⟨hy1, hy2⟩ := hy
          have hgs : sx = ⟨gs.toArray⟩ := by rw [hsx, hy1]
          have HGS := Lib.hid hgs
          have HY2 := Lib.hid hy2
          have C4 := Lib.hid c4
          have C5 := Lib.hid c5
          have HBX := Lib.hid hBX
          clear hyes hgs hy2 hy1 hsx hkx he hr0 c3 c4 c5 hBX
          gi_wp2
          have hbf : Below w.heap.size w ((X.setCell ⟨w.heap.size + 1, 0, none⟩ (.string sx)).setCell ⟨w.heap.size + 2, 0, none⟩ (.bool true)) := (HBX.out.setCell (p := ⟨w.heap.size + 1, 0, none⟩) (Nat.le_add_right _ _) _).setCell (p := ⟨w.heap.size + 2, 0, none⟩) (Nat.le_add_right _ _) _
          refine ⟨((KeepsOthers.setCell _ _ _).from _).trans ((KeepsOthers.setCell _ _ _).from _), ⟨rfl, HY2.out⟩, ?_, ?_, hbf⟩
          · rw [← HGS.out]; exact (C4.out.set _).other (B' := w.heap.size + 2) (by omega) _
          · exact (C5.out.other (B' := w.heap.size + 1) (by omega) _).set _
        · have e1 : (((kx : Nat) : Int) == i) = false := by simpa using he
          have hns := HSN.out (by rw [← hkx]; exact he)
          have HNS := Lib.hid hns
          have C3 := Lib.hid c3
          have C4 := Lib.hid c4
          have C5 := Lib.hid c5
          have HBX := Lib.hid hBX
          clear hyes hsx hkx hr0 c3 c4 c5 hBX hns
          gi_wp2
          exact ⟨KeepsFrom.refl _ _, (fun j hj => rfl), HNS.out, C3.out, C4.out, C5.out, HBX.out⟩
      case done =>
        rintro D ys X hD rfl ⟨hpre, c3, c4, c5, hBX⟩ hK
        have hnn := HNO.out (fun x => hpre x (List.mem_finRange x))
        obtain ⟨rfl, rfl⟩ := hnn
        have h4 := c4.cell
        have h5 := c5.cell
        have f4 := frozen_of_row _ _ 0 _ _ c4
        have f5 := frozen_of_row _ _ 0 _ _ c5
        refine a1 _ _ ?_
        gi_wp2
        show LeavesInM Fence.wide 6 _ _ _ _ _ .returning _
        have n4 : w.heap.size + 1 ≠ D := by omega
        have n5 : w.heap.size + 2 ≠ D := by omega
        have t4 := (c4.set (.string ⟨#[]⟩)).other (B' := w.heap.size + 2) (by omega) (.bool false)
        have t5 := (c5.other (B' := w.heap.size + 1) (by omega) (.string ⟨#[]⟩)).set (.bool false)
        have hbf := (hBX.setCell (p := ⟨w.heap.size + 1, 0, none⟩) (Nat.le_add_right _ _) (.string ⟨#[]⟩)).setCell (p := ⟨w.heap.size + 2, 0, none⟩) (Nat.le_add_right _ _) (.bool false)
        have hK2 : ((X.setCell ⟨w.heap.size + 1, 0, none⟩ (.string ⟨#[]⟩)).setCell ⟨w.heap.size + 2, 0, none⟩ (.bool false)).heap[D]? = some (.deferred (some [])) := (heap_setCell_other _ _ _ _ (by simpa using n5.symm)).trans ((heap_setCell_other _ _ _ _ (by simpa using n4.symm)).trans hK)
        generalize ((X.setCell ⟨w.heap.size + 1, 0, none⟩ (.string ⟨#[]⟩)).setCell ⟨w.heap.size + 2, 0, none⟩ (.bool false)) = Y at t4 t5 hbf hK2 ⊢
        have m4 : (World.putObj Y D (.deferred none)).cell? ⟨w.heap.size + 1, 0, none⟩ = some (.string ⟨#[]⟩) := cell_of_one ((World.putObj_heap_other n4).trans t4)
        have m5 : (World.putObj Y D (.deferred none)).cell? ⟨w.heap.size + 2, 0, none⟩ = some (.bool false) := cell_of_one ((World.putObj_heap_other n5).trans t5)
        refine leaves1 (a := { tmps := _, defers := [{ target := .collected D, args := #[] }] }) rfl hK2 (by simp [results, Try.results25, go_sem, m4, m5]) ⟨rfl, ?_⟩
        exact hbf.grown (grownBy_putObj' _ D (.deferred none)) hbf.size (fun k e => by cases e; omega)
      case stop =>
        rintro D c pre X hD hSp ⟨⟨rfl, rfl⟩, c4, c5, hBX⟩ hK
        gi_wp2
        show LeavesInM Fence.wide 6 _ _ _ _ _ .returning _
        have n4 : w.heap.size + 1 ≠ D := by omega
        have n5 : w.heap.size + 2 ≠ D := by omega
        have m4 : (World.putObj X D (.deferred none)).cell? ⟨w.heap.size + 1, 0, none⟩ = some (.string ⟨gs.toArray⟩) := cell_of_one ((World.putObj_heap_other n4).trans c4)
        have m5 : (World.putObj X D (.deferred none)).cell? ⟨w.heap.size + 2, 0, none⟩ = some (.bool true) := cell_of_one ((World.putObj_heap_other n5).trans c5)
        refine leaves1 (a := { tmps := _, defers := [{ target := .collected D, args := #[] }] }) rfl hK (by simp [results, Try.results25, go_sem, m4, m5]) ⟨rfl, ?_⟩
        exact hBX.grown (grownBy_putObj' _ D (.deferred none)) hBX.size (fun k e => by cases e; omega)
end Go.Proofs.Ytjgcmnppiaikcaa
