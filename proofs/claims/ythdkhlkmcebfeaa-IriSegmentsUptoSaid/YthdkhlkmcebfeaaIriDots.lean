/- dots: has a path a segment of dots? -/
import Derived.Test.YthdkhlkmcebfeaaIriSeg
import Derived.Outline
set_option linter.unusedVariables false
set_option linter.unusedSimpArgs false
namespace Go.Tk
open Go Go.RowKit
theorem leaves1 {F : Fence} {n : Nat} {P : Program} {fn : Func} {R : Ending → World → Prop} {a : Act} {W : World} {D : Nat} {v : Value}
    (h : a.defers = [{ target := .collected D, args := #[] }]) (hK : W.heap[D]? = some (.deferred (some [])))
    (hres : (results fn a.tmps).run P (W.putObj D (.deferred none)) = .ok v (W.putObj D (.deferred none))) (hR : R (.returned v) (W.putObj D (.deferred none))) : LeavesInM F n P fn a.tmps R a.defers .returning W := by
  rw [h]
  refine ⟨by simp, .inl ⟨_, _, rfl, run_takeDeferred hK, ?_⟩⟩
  exact ⟨_, hres, hR⟩
theorem dots_any (l : List UInt8) : dotsB l = (segs l).any dotS := rfl
end Go.Tk
namespace Go.Proofs.Ythdkhlkmcebfeaa
open Go.RowKit Go.Shelf Go.Tk
attribute [local go_sem] Oper.semAt_some
theorem segments_in (n : Nat) (s : ByteArray) (w : World) :
    CallsIn Fence.wide n Try.prog 17 #[.string s] w fun e w' => e = .returned (.func (.func 39) #[] #[.pointer (some ⟨w.heap.size, 0, none⟩)]) ∧ w' = w.alloc (.cells #[.string s] 9) := by
  refine callsIn_of_wp Try.func17 rfl trivial ?_ rfl
  simp only [Try.ntmps17, List.size_toArray, List.length_cons, List.length_nil, Nat.reduceAdd, Nat.reduceSub, Array.replicate_succ, Array.replicate_zero, List.push_toArray, List.append_toArray, List.nil_append, List.cons_append]
  gi_wp2
  go_ret
  exact ⟨rfl, rfl⟩
set_option maxRecDepth 100000 in
set_option maxHeartbeats 2000000 in
theorem dots_calls (s : ByteArray) (w : World) (hs : s.size ≤ 1000000000000000) :
    Calls Try.prog 31 #[.string s] w fun e w' => e = .returned (.bool (dotsB s.data.toList)) ∧ Below w.heap.size w w' := by
  obtain ⟨L, hL⟩ : ∃ L, L = segs s.data.toList := ⟨_, rfl⟩
  have hD : dotsB s.data.toList = L.any dotS := by rw [hL]; rfl
  have hstops : ∀ (n : Nat) (W : World), 1 ≤ n → W.heap[w.heap.size + 1]? = some (.cells #[.string s] 9 (0, 0)) →
      SeqStopsK Fence.wide n Try.prog 39 #[.pointer (some ⟨w.heap.size + 1, 0, none⟩)] segEnc (fun A B => B.heap[w.heap.size + 1]? = A.heap[w.heap.size + 1]?) (fun ys => ys = L) (fun pre => pre <+: L) L.length W := by
    intro n W hn hb l J Jx W' hW' hA _ hY h0
    have hlt := lt_of_block hb
    have := segs1_in n hn l (w.heap.size + 1) s hs J Jx (by rw [← hL]; exact hY) (fun pre X k hJ => hA _ X _ none hJ (grownBy_drewN (World.grownBy.refl _ _) k) (fun r e => by cases e)) W' (cell_of_one ((hW'.block _ hlt).trans hb)) h0
    rw [← hL] at this
    exact this
  have hnil : ∀ (p : Value) (w : World), (binOp .eql 27 (.func (.func 39) #[] #[p]) .nilFunc).run Try.prog w = .ok (.bool false) w := fun p w => by kernel_rfl
  have HST := Lib.hid hstops
  rw [hD]
  clear hD hL hstops
  refine (callsIn_wide (n := 6)).1 ?_
  refine callsIn_of_wp_marks Try.func31 rfl trivial ?_ rfl
  simp only [Try.ntmps31, List.size_toArray, List.length_cons, List.length_nil, Nat.reduceAdd, Nat.reduceSub, Array.replicate_succ, Array.replicate_zero, List.push_toArray, List.append_toArray, List.nil_append, List.cons_append]
  gi_wp2_with (refine ⟨trivial, ?_⟩; gi_at_call 17; refine (segments_in _ _ _).mono ?_; rintro e w' ⟨rfl, rfl⟩)
  have b0 := (Boxed.new w 4 (.bool false)).alloc (.cells #[.string s] 9)
  have b1 := Boxed.new (w.alloc (.cells #[.bool false] 4)) 9 (.string s)
  have hB : Below w.heap.size w ((w.alloc (.cells #[.bool false] 4)).alloc (.cells #[.string s] 9)) := ((Below.refl _ w).alloc (Nat.le_refl _) _).alloc (by simp) _
  have hsz : ((w.alloc (.cells #[.bool false] 4)).alloc (.cells #[.string s] 9)).heap.size = w.heap.size + 2 := by simp
  simp only [World.size_alloc] at b1
  generalize ((w.alloc (.cells #[.bool false] 4)).alloc (.cells #[.string s] 9)) = W0 at b0 b1 hB hsz ⊢
  rename_i Q1 K1 a1
  refine wpIn_rangeFunc_ownG (α := List UInt8) rfl (by omega) (gf := 39) (lb := #[.pointer (some ⟨w.heap.size + 1, 0, none⟩)]) rfl trivial (enters_of Try.func39 (by kernel_rfl) rfl)
    (HST.out 5 W0 (by omega) b1) (fun h k => k.trans h) (fun W l o o' hl h1 h2 h3 => World.putObj_heap_other (by omega)) (Below.refl _ _) (fun _ => rfl)
    (fun pre W => pre.any dotS = false ∧ (Boxed W w.heap.size 4 (.bool false) ∧ Boxed W (w.heap.size + 1) 9 (.string s)) ∧ Below w.heap.size w W)
    (fun c pre W => (c = .ret ∧ pre.any dotS = true) ∧ Boxed W w.heap.size 4 (.bool true) ∧ Below w.heap.size w W)
    (OwnFrom.and (ownFrom_pure _ _) (OwnFrom.and (OwnFrom.and (Own.from (boxed_own _ _ _) _) (Own.from (boxed_own _ _ _) _)) (ownFrom_below (Nat.le_refl _) (by omega))))
    (fun c => OwnFrom.and (ownFrom_pure _ _) (OwnFrom.and (Own.from (boxed_own _ _ _) _) (ownFrom_below (Nat.le_refl _) (by omega))))
    ⟨rfl, ⟨b0, b1⟩, hB⟩
    (fun x => { tmps := #[.string s, undef, .pointer (some ⟨w.heap.size, 0, none⟩), .func (.func 39) #[] #[.pointer (some ⟨w.heap.size + 1, 0, none⟩)], .string ⟨x.toArray⟩, .string s, .func (.func 39) #[] #[.pointer (some ⟨w.heap.size + 1, 0, none⟩)], .func (.func 39) #[] #[.pointer (some ⟨w.heap.size + 1, 0, none⟩)], .bool false, .func (.func 39) #[] #[.pointer (some ⟨w.heap.size + 1, 0, none⟩)], .string ⟨x.toArray⟩, undef, undef, undef, undef, undef, undef], defers := [] }) ?assign ?body ?done ?stop
  case assign =>
    intro l x X K hK
    unfold segEnc
    gi_wp2
    exact hK
  case body =>
    rintro l pre x X ⟨hpre, ⟨c0, c1⟩, hBX⟩ hlt
    have hszX := hBX.size
    have hc0 := c0.cell
    have hfr := frozen_of_row _ _ 0 _ _ c0
    obtain ⟨xB, hxB⟩ : ∃ xB : ByteArray, xB = ⟨x.toArray⟩ := ⟨_, rfl⟩
    have hd : dotS x = (xB.toList == [46] || xB.toList == [46, 46]) := by rw [Lib.toList_data, hxB]; rfl
    rw [← hxB]
    have hany : (pre ++ [x]).any dotS = dotS x := by rw [List.any_append, hpre]; simp
    have HANY := Lib.hid hany
    have HD := Lib.hid hd
    clear hd hxB hany
    cases e1 : (xB.toList == [46]) with
    | true =>
      have hd : dotS x = true := by rw [HD.out, e1]; rfl
      have HD2 := Lib.hid hd
      clear hd
      gi_wp2
      exact ⟨(KeepsOthers.setCell _ _ _).from _, ⟨rfl, by rw [HANY.out]; exact HD2.out⟩, c0.set _, hBX.setCell (Nat.le_refl _) _⟩
    | false =>
      cases e2 : (xB.toList == [46, 46]) with
      | true =>
        have hd : dotS x = true := by rw [HD.out, e1, e2]; rfl
        have HD2 := Lib.hid hd
        clear hd
        gi_wp2
        exact ⟨(KeepsOthers.setCell _ _ _).from _, ⟨rfl, by rw [HANY.out]; exact HD2.out⟩, c0.set _, hBX.setCell (Nat.le_refl _) _⟩
      | false =>
        have hd : dotS x = false := by rw [HD.out, e1, e2]; rfl
        have HD2 := Lib.hid hd
        clear hd
        gi_wp2
        exact ⟨KeepsFrom.refl _ _, rfl, by rw [HANY.out]; exact HD2.out, ⟨c0, c1⟩, hBX⟩
  case done =>
    rintro D ys X hD rfl ⟨hpre, ⟨c0, c1⟩, hBX⟩ hK
    have hc0 := c0.cell
    have hfr := frozen_of_row _ _ 0 _ _ c0
    refine a1 _ _ ?_
    gi_wp2
    show LeavesInM Fence.wide 6 _ _ _ _ _ .returning _
    have hne : w.heap.size ≠ D := by omega
    have hcell : (World.putObj (X.setCell ⟨w.heap.size, 0, none⟩ (.bool false)) D (.deferred none)).cell? ⟨w.heap.size, 0, none⟩ = some (.bool false) := cell_of_one ((World.putObj_heap_other hne).trans (c0.set _))
    refine leaves1 (v := .bool false) (a := { tmps := _, defers := [{ target := .collected D, args := #[] }] }) rfl ((Below.heap_setCell _ _ _ _ (by simpa using hne.symm)).trans hK) (by simp [results, Try.results31, go_sem, hcell]) ⟨(by rw [hpre]), ?_⟩
    exact (hBX.setCell (p := ⟨w.heap.size, 0, none⟩) (Nat.le_refl _) (.bool false)).grown (grownBy_putObj' _ D (.deferred none)) (hBX.setCell (p := ⟨w.heap.size, 0, none⟩) (Nat.le_refl _) (.bool false)).size (fun k e => by cases e; omega)
  case stop =>
    rintro D c pre X hD hSp ⟨⟨rfl, hpre⟩, c0, hBX⟩ hK
    have hL : L.any dotS = true := by
      obtain ⟨t, rfl⟩ := hSp
      rw [List.any_append, hpre]; rfl
    gi_wp2
    show LeavesInM Fence.wide 6 _ _ _ _ _ .returning _
    have hne : w.heap.size ≠ D := by omega
    have hcell : (World.putObj X D (.deferred none)).cell? ⟨w.heap.size, 0, none⟩ = some (.bool true) := cell_of_one ((World.putObj_heap_other hne).trans c0)
    refine leaves1 (v := .bool true) (a := { tmps := _, defers := [{ target := .collected D, args := #[] }] }) rfl hK (by simp [results, Try.results31, go_sem, hcell]) ⟨(by rw [hL]), ?_⟩
    exact hBX.grown (grownBy_putObj' _ D (.deferred none)) hBX.size (fun k e => by cases e; omega)
end Go.Proofs.Ythdkhlkmcebfeaa
