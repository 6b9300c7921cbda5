/- IriSegments: the segments of any path: left at any place, gone over again, and within itself. (written by gen_segments.py) -/
import Derived.Test.YthdkhlkmcebfeaaIriSegR
import Derived.Test.YthdkhlkmcebfeaaIriDots
import Derived.Laws.EntriesVeiled
import Derived.LoopNIn
import Derived.Outline
set_option linter.unusedVariables false
set_option linter.unusedSimpArgs false
namespace Go.Tk
open Go Go.RowKit
/-- What stood below a bound stands, but for one box. -/
def Carry (W : World) (B : Nat) (X : World) : Prop := W.heap.size ≤ X.heap.size ∧ ∀ j, j < W.heap.size → j ≠ B → X.heap[j]? = W.heap[j]?
theorem carry_own {β : Type} (W : World) (B : Nat) : OwnFrom W.heap.size (fun (_ : β) X => Carry W B X) :=
  fun _ X Y row hs hg hr => ⟨Nat.le_trans hs.1 hg.size, fun j hj hB => (hg.block j (by have := hs.1; omega) (fun e => by have := (hr j e.symm).1; omega)).trans (hs.2 j hj hB)⟩
theorem Carry.refl (W : World) (B : Nat) : Carry W B W := ⟨Nat.le_refl _, fun _ _ _ => rfl⟩
theorem Carry.box {W X : World} {B j : Nat} {t : TypeId} {v : Value} (h : Carry W B X) (hb : Boxed W j t v) (hj : j ≠ B) : Boxed X j t v := (h.2 j (lt_of_block hb) hj).trans hb
theorem Carry.box' {W X : World} {B D : Nat} {t : TypeId} {v : Value} {o : Obj} (h : Carry W B X) (hD : W.heap[D]? = some o) (ho : o.isCells = false) (hB : Boxed W B t v) : X.heap[D]? = some o := (h.2 D (lt_of_block hD) (fun e => by rw [e, hB] at hD; cases hD; cases ho)).trans hD
theorem Carry.set {W X : World} {B : Nat} (h : Carry W B X) (v : Value) : Carry W B (X.setCell ⟨B, 0, none⟩ v) := ⟨by simpa using h.1, fun j hj hB => (heap_setCell_other _ _ _ _ (by simpa using hB)).trans (h.2 j hj hB)⟩
theorem leaves2c {F : Fence} {n : Nat} {P : Program} {fn : Func} {R : Ending → World → Prop} {a : Act} {W : World} {D1 D2 : Nat} {v : Value}
    (h : a.defers = [{ target := .collected D2, args := #[] }, { target := .collected D1, args := #[] }]) (hne : D1 ≠ D2) (hK1 : W.heap[D1]? = some (.deferred (some []))) (hK2 : W.heap[D2]? = some (.deferred (some [])))
    (hres : (results fn a.tmps).run P ((W.putObj D2 (.deferred none)).putObj D1 (.deferred none)) = .ok v ((W.putObj D2 (.deferred none)).putObj D1 (.deferred none))) (hR : R (.returned v) ((W.putObj D2 (.deferred none)).putObj D1 (.deferred none))) : LeavesInM F n P fn a.tmps R a.defers .returning W := by
  rw [h]
  refine ⟨by simp, .inl ⟨_, _, rfl, run_takeDeferred hK2, ?_⟩⟩
  have hK1' : (W.putObj D2 (.deferred none)).heap[D1]? = some (.deferred (some [])) := (World.putObj_heap_other hne).trans hK1
  refine ⟨by simp, .inl ⟨_, _, rfl, run_takeDeferred hK1', ?_⟩⟩
  exact ⟨_, hres, hR⟩
/-- What the two rounds read. -/
structure SEnv (ti tb tl ts tf : TypeId) (w0 w1 gb cc : Nat) (st inn : Int) (s : ByteArray) (f : Value) (L : List (List UInt8)) (W : World) : Prop where
  b4 : Boxed W w0 ti (.int .i64 st)
  b5 : Boxed W (w0 + 1) ti (.int .i64 inn)
  b6 : Boxed W (w0 + 2) tb (.bool false)
  b7 : Boxed W w1 tl (.slice (some ⟨gb, 0, none⟩) L.length cc)
  bp : Boxed W (w1 + 1) ts (.string s)
  b8 : Boxed W (w1 + 2) tf f
  at' : ∀ i (hi : i < L.length), W.cell? ⟨gb, i, none⟩ = some (.string ⟨L[i].toArray⟩)
  lt : gb < w1
  le : w0 + 3 ≤ w1
theorem SEnv.carry {ti tb tl ts tf : TypeId} {w0 w1 gb cc : Nat} {st inn : Int} {s : ByteArray} {f : Value} {L : List (List UInt8)} {W X : World} {B : Nat}
    (h : SEnv ti tb tl ts tf w0 w1 gb cc st inn s f L W) (hc : Carry W B X) (hB : w1 + 3 ≤ B) : SEnv ti tb tl ts tf w0 w1 gb cc st inn s f L X := by
  have hl := h.le
  have hg := h.lt
  have h8 := lt_of_block h.b8
  exact ⟨hc.box h.b4 (by omega), hc.box h.b5 (by omega), hc.box h.b6 (by omega), hc.box h.b7 (by omega), hc.box h.bp (by omega), hc.box h.b8 (by omega),
    fun i hi => (World.cell?_of_block (a := ⟨gb, i, none⟩) (hc.2 gb (by omega) (by omega))).trans (h.at' i hi), h.lt, h.le⟩
theorem SEnv.new {ti tb tl ts tf : TypeId} {w0 w1 gb cc : Nat} {st inn : Int} {s : ByteArray} {f : Value} {L : List (List UInt8)} {W : World}
    (h : SEnv ti tb tl ts tf w0 w1 gb cc st inn s f L W) (o : Obj) : SEnv ti tb tl ts tf w0 w1 gb cc st inn s f L (W.alloc o) :=
  ⟨h.b4.alloc o, h.b5.alloc o, h.b6.alloc o, h.b7.alloc o, h.bp.alloc o, h.b8.alloc o,
    fun i hi => (World.cell?_of_block (a := ⟨gb, i, none⟩) (Below.heap_alloc _ _ _ (by have := lt_of_block h.b8; have := h.lt; show gb < _; omega))).trans (h.at' i hi), h.lt, h.le⟩
theorem Carry.new {W X : World} {B : Nat} (h : Carry W B X) (o : Obj) : Carry W B (X.alloc o) := ⟨by have := h.1; simp; omega, fun j hj hB => (Below.heap_alloc _ _ _ (by have := h.1; omega)).trans (h.2 j hj hB)⟩
theorem Carry.then {W Y Z : World} {B C : Nat} (h : Carry W B Y) (k : Carry Y C Z) (hC : W.heap.size ≤ C) : Carry W B Z :=
  ⟨Nat.le_trans h.1 k.1, fun j hj hB => (k.2 j (by have := h.1; omega) (by omega)).trans (h.2 j hj hB)⟩
theorem ownFrom_or {β : Type} {B : Nat} {I I' : β → World → Prop} (h : OwnFrom B I) (h' : OwnFrom B I') : OwnFrom B (fun s W => I s W ∨ I' s W) := fun s W W' row hs hg hr => hs.imp (fun hs => h s W W' row hs hg hr) (fun hs => h' s W W' row hs hg hr)
theorem prefix_snoc {α : Type} {pre L : List α} (h : pre <+: L) (hl : pre.length < L.length) (x : α) : pre ++ [x] <+: L ↔ x = L[pre.length] := by
  obtain ⟨t, rfl⟩ := h
  cases t with
  | nil => simp at hl
  | cons y t =>
    rw [List.prefix_append_right_inj, List.cons_prefix_cons]
    simp
end Go.Tk

namespace Go.Proofs.Ythdkhlkmcebfeaa
open Go.RowKit Go.Shelf Go.Tk
attribute [local go_sem] Oper.semAt_some
abbrev SE := SEnv 3 4 24 9 27
set_option maxRecDepth 100000 in
set_option maxHeartbeats 4000000 in
theorem irisegments_go (w : World) (s : ByteArray) (st inn : Int) (hs : s.size ≤ 1048576) :
    Calls Try.prog 4 #[.string s, .int .i64 st, .int .i64 inn] w fun e w' => e = .returned (.bool true) ∧ Below w.heap.size w w' := by
  have hrs := fun w => rsegments_calls s w hs
  have hnil : ∀ (p : Value) (w : World), (binOp .eql 27 (.func (.func 39) #[] #[p]) .nilFunc).run Try.prog w = .ok (.bool false) w := fun p w => by kernel_rfl
  obtain ⟨L, hL⟩ : ∃ L, L = segs s.data.toList := ⟨_, rfl⟩
  have hLp := segs_pos s.data.toList
  have hLl := segs_len s.data.toList
  rw [← Lib.size_eq] at hLl
  rw [← hL] at hrs hLp hLl
  have hstops : ∀ (n : Nat) (W : World) (c : Nat), 1 ≤ n → W.heap[c]? = some (.cells #[.string s] 9 (0, 0)) →
      SeqStopsK Fence.wide n Try.prog 39 #[.pointer (some ⟨c, 0, none⟩)] segEnc (fun A B => B.heap[c]? = A.heap[c]?) (fun ys => ys = L) (fun pre => pre <+: L) L.length W := by
    intro n W c hn hb l J Jx W' hW' hA _ hY h0
    have hlt := lt_of_block hb
    have := segs1_in n hn l c s (by omega) J Jx (by rw [← hL]; exact hY) (fun pre X k hJ => hA _ X _ none hJ (grownBy_drewN (World.grownBy.refl _ _) k) (fun r e => by cases e)) W' (cell_of_one ((hW'.block _ hlt).trans hb)) h0
    rw [← hL] at this
    exact this
  have HL := Lib.hid hL
  have HST := Lib.hid hstops
  clear hL hstops
  have HRS := Lib.hid hrs
  clear hrs
  refine (callsIn_wide (n := 10)).1 ?_
  refine callsIn_of_wp_marks Try.func4 rfl trivial ?_ rfl
  simp only [Try.ntmps4, List.size_toArray, List.length_cons, List.length_nil, Nat.reduceAdd, Nat.reduceSub, Array.replicate_succ, Array.replicate_zero, List.push_toArray, List.append_toArray, List.nil_append, List.cons_append]
  gi_wp2_with (first
    | (refine ⟨trivial, ?_⟩; gi_at_call 16; refine (callsIn_wide.2 (HRS.out _)).mono ?_; rintro e wa ⟨v, rfl, how, hb1⟩; (have HOW := Lib.hid how); (have HB1 := Lib.hid hb1); (have hsz1 := hb1.size); clear how hb1; obtain ⟨gb, cc, rfl, hcc1, hcc2⟩ := HOW.out.shape' hLp)
    | (refine ⟨trivial, ?_⟩; gi_at_call 17; refine (segments_in _ _ _).mono ?_; rintro e w' ⟨rfl, rfl⟩))
  have hsz5 : w.heap.size + 3 ≤ wa.heap.size := by simpa using hsz1
  refine wpIn_loop_rounds 3 ?_
  rw [roundsIn_succ]
  gi_wp2
  obtain ⟨w1, hw1⟩ : ∃ w1, w1 = wa.heap.size := ⟨_, rfl⟩
  simp only [Nat.add_assoc, Nat.reduceAdd]
  rw [← hw1]
  have c4 := ((Boxed.new w 3 (.int .i64 st)).alloc (.cells #[.int .i64 inn] 3)).alloc (.cells #[.bool false] 4)
  have c5 := (Boxed.new (w.alloc (.cells #[.int .i64 st] 3)) 3 (.int .i64 inn)).alloc (.cells #[.bool false] 4)
  have c6 := Boxed.new ((w.alloc (.cells #[.int .i64 st] 3)).alloc (.cells #[.int .i64 inn] 3)) 4 (.bool false)
  simp only [World.size_alloc, Nat.add_assoc, Nat.reduceAdd] at c5 c6
  have hb1 := HB1.out
  simp only [World.size_alloc, Nat.add_assoc, Nat.reduceAdd] at hb1
  have hgl := (HOW.out.lt gb rfl).2
  have hE0 : SE w.heap.size w1 gb cc st inn s (.func (.func 39) #[] #[.pointer (some ⟨w1 + 1, 0, none⟩)]) L
      (((wa.alloc (.cells #[.slice (some ⟨gb, 0, none⟩) L.length cc] 24)).alloc (.cells #[.string s] 9)).alloc (.cells #[.func (.func 39) #[] #[.pointer (some ⟨w1 + 1, 0, none⟩)]] 27)) := by
    rw [hw1]
    refine ⟨?_, ?_, ?_, ?_, ?_, ?_, ?_, hgl, hsz5⟩
    · have d : Boxed wa (w.heap.size) 3 (.int .i64 st) := (hb1.block _ (by omega)).trans c4
      exact ((d.alloc _).alloc _).alloc _
    · have d : Boxed wa (w.heap.size + 1) 3 (.int .i64 inn) := (hb1.block _ (by omega)).trans c5
      exact ((d.alloc _).alloc _).alloc _
    · have d : Boxed wa (w.heap.size + 2) 4 (.bool false) := (hb1.block _ (by omega)).trans c6
      exact ((d.alloc _).alloc _).alloc _
    · exact ((Boxed.new wa 24 _).alloc _).alloc _
    · have := (Boxed.new (wa.alloc (.cells #[.slice (some ⟨gb, 0, none⟩) L.length cc] 24)) 9 (.string s)).alloc (.cells #[.func (.func 39) #[] #[.pointer (some ⟨wa.heap.size + 1, 0, none⟩)]] 27)
      simpa only [World.size_alloc] using this
    · have := Boxed.new ((wa.alloc (.cells #[.slice (some ⟨gb, 0, none⟩) L.length cc] 24)).alloc (.cells #[.string s] 9)) 27 (.func (.func 39) #[] #[.pointer (some ⟨wa.heap.size + 1, 0, none⟩)])
      simpa only [World.size_alloc, Nat.add_assoc, Nat.reduceAdd] using this
    · intro i hi
      rw [World.cell?_of_block (a := ⟨gb, i, none⟩) (Below.heap_alloc _ _ _ (by simp only [World.size_alloc]; show gb < _; omega)), World.cell?_of_block (a := ⟨gb, i, none⟩) (Below.heap_alloc _ _ _ (by simp only [World.size_alloc]; show gb < _; omega)), World.cell?_of_block (a := ⟨gb, i, none⟩) (Below.heap_alloc _ _ _ (by show gb < _; omega))]
      exact HOW.out.at' i hi
  have hB0 : Below w.heap.size w (((wa.alloc (.cells #[.slice (some ⟨gb, 0, none⟩) L.length cc] 24)).alloc (.cells #[.string s] 9)).alloc (.cells #[.func (.func 39) #[] #[.pointer (some ⟨w1 + 1, 0, none⟩)]] 27)) :=
    (((((((Below.refl _ w).alloc (Nat.le_refl _) _).alloc (by simp) _).alloc (by simp; omega) _).trans (hb1.mono (by omega))).alloc (by omega) _).alloc (by simp; omega) _).alloc (by simp; omega) _
  have hz0 : (((wa.alloc (.cells #[.slice (some ⟨gb, 0, none⟩) L.length cc] 24)).alloc (.cells #[.string s] 9)).alloc (.cells #[.func (.func 39) #[] #[.pointer (some ⟨w1 + 1, 0, none⟩)]] 27)).heap.size = w1 + 3 := by simp [hw1]
  generalize (((wa.alloc (.cells #[.slice (some ⟨gb, 0, none⟩) L.length cc] 24)).alloc (.cells #[.string s] 9)).alloc (.cells #[.func (.func 39) #[] #[.pointer (some ⟨w1 + 1, 0, none⟩)]] 27)) = W0 at hE0 hB0 hz0 ⊢
  have hkb := (Boxed.new W0 3 (.int .i64 0)).alloc (.cells #[.int .i64 0] 3)
  have hib := Boxed.new (W0.alloc (.cells #[.int .i64 0] 3)) 3 (.int .i64 0)
  have hE1 := (hE0.new (.cells #[.int .i64 0] 3)).new (.cells #[.int .i64 0] 3)
  have hB1 := (hB0.alloc (by omega) (.cells #[.int .i64 0] 3)).alloc (by simp; omega) (.cells #[.int .i64 0] 3)
  have hz1 : ((W0.alloc (.cells #[.int .i64 0] 3)).alloc (.cells #[.int .i64 0] 3)).heap.size = w1 + 5 := by simp [hz0]
  simp only [World.size_alloc, hz0, Nat.add_assoc, Nat.reduceAdd] at hkb hib
  generalize ((W0.alloc (.cells #[.int .i64 0] 3)).alloc (.cells #[.int .i64 0] 3)) = W1 at hkb hib hE1 hB1 hz1 ⊢
  have hle := hE1.le
  clear hE0 hB0 hz0 c4 c5 c6 hb1 hgl hsz1 HOW HB1 hw1 hsz5
  rename_i Q1 K1 a1 K2 a2 K3 a3
  have after : ∀ (D i : Nat) (X : World), W1.heap.size ≤ D → ((i : Int) = (L.length : Int) ∨ (i : Int) = wrap64 (st + 1)) → Boxed X (w1 + 4) 3 (.int .i64 (i : Nat)) → Carry W1 (w1 + 4) X → Below w.heap.size w X →
      X.heap[D]? = some (.deferred (some [])) → K3 { tmps := #[.string s, .int .i64 st, .int .i64 inn, undef, .pointer (some ⟨w.heap.size, 0, none⟩), .pointer (some ⟨w.heap.size + 1, 0, none⟩), .pointer (some ⟨w.heap.size + 2, 0, none⟩), .pointer (some ⟨w1, 0, none⟩), .pointer (some ⟨w1 + 2, 0, none⟩), .pointer (some ⟨w1 + 3, 0, none⟩), .pointer (some ⟨w1 + 4, 0, none⟩), undef, undef, undef, .string s, .slice (some ⟨gb, 0, none⟩) L.length cc, .string s, .func (.func 39) #[] #[.pointer (some ⟨w1 + 1, 0, none⟩)], .func (.func 39) #[] #[.pointer (some ⟨w1 + 1, 0, none⟩)], .bool false, .int .i64 0, .bool true, undef, undef, .func (.func 39) #[] #[.pointer (some ⟨w1 + 1, 0, none⟩)], undef, undef, undef, undef, undef, undef, undef, undef, undef, undef, undef, undef, undef, undef, undef, undef, undef, undef, undef, undef, undef, undef, undef, undef, undef, undef, undef, undef, undef, undef, undef, undef, undef, undef, undef, undef, undef, undef, undef, undef, undef, undef, undef, undef, undef, undef, undef, undef, undef, undef, undef, undef, undef, undef, undef, undef, undef, undef, undef, undef, undef, undef, undef, undef, undef, undef, undef, undef, undef, undef, undef], defers := [{ target := .collected D, args := #[] }] } X := by
    intro D i X hD hi hib hCa hBX hK
    refine a3 _ _ ?_
    have E := hE1.carry hCa (by omega)
    have h4 := E.b4.cell
    have h7 := E.b7.cell
    have h8 := E.b8.cell
    have h9 := (hCa.box hkb (by omega)).cell
    have h10 := hib.cell
    have f9 := frozen_of_row _ _ 0 _ _ (hCa.box hkb (by omega))
    have h8j := fun o o' => ((E.b8.alloc o).alloc o').cell
    have HIB := Lib.hid hib
    have HCA := Lib.hid hCa
    have HBX := Lib.hid hBX
    have HE := Lib.hid E
    have HK := Lib.hid hK
    clear hib hCa hBX E hK
    by_cases hi1 : (i : Int) = (L.length : Int)
    case' neg =>
      have hi2 := hi.resolve_left hi1
      rw [hi2] at h10 hi1
      have HI2 := Lib.hid hi2
      clear hi2
    all_goals clear hi
    all_goals gi_wp2
    all_goals rw [roundsIn_succ]
    all_goals gi_wp2
    all_goals (
      have hkb2 := (Boxed.new X 3 (.int .i64 1)).alloc (.cells #[.int .i64 0] 3)
      have hib2 := Boxed.new (X.alloc (.cells #[.int .i64 1] 3)) 3 (.int .i64 0)
      have hE2 := (HE.out.new (.cells #[.int .i64 1] 3)).new (.cells #[.int .i64 0] 3)
      have hB2 := (HBX.out.alloc HBX.out.size (.cells #[.int .i64 1] 3)).alloc (by have := HBX.out.size; simp; omega) (.cells #[.int .i64 0] 3)
      have hDl := lt_of_block HK.out
      have hD2 : ((X.alloc (.cells #[.int .i64 1] 3)).alloc (.cells #[.int .i64 0] 3)).heap[D]? = some (.deferred (some [])) := ((Below.heap_alloc _ _ _ (by simp; omega)).trans (Below.heap_alloc _ _ _ hDl)).trans HK.out
      have hz2 : ((X.alloc (.cells #[.int .i64 1] 3)).alloc (.cells #[.int .i64 0] 3)).heap.size = X.heap.size + 2 := by simp
      have hXX := HCA.out.1
      have hXw := HBX.out.size
      simp only [World.size_alloc] at hib2
      generalize ((X.alloc (.cells #[.int .i64 1] 3)).alloc (.cells #[.int .i64 0] 3)) = W2 at hkb2 hib2 hE2 hB2 hD2 hz2 ⊢
      have HD2 := Lib.hid hD2
      clear hD2 h4 h7 h8 h9 h10 f9 h8j
      rename_i K5 a5 K6 a6
      refine wpIn_rangeFunc_ownH (α := List UInt8) rfl (by omega) (gf := 39) (lb := #[.pointer (some ⟨w1 + 1, 0, none⟩)]) rfl trivial (enters_of Try.func39 (by kernel_rfl) rfl)
        (HST.out 9 W2 (w1 + 1) (by omega) hE2.bp) (fun h k => k.trans h) (fun W l o o' hl h1 h2 h3 => World.putObj_heap_other (by omega)) (Below.refl _ _) (fun _ => rfl)
        (fun pre V => pre <+: L ∧ Boxed V (X.heap.size + 1) 3 (.int .i64 (pre.length : Nat)) ∧ Carry W2 (X.heap.size + 1) V ∧ Below w.heap.size w V)
        (fun c pre V => c = .ret ∧ ¬ pre <+: L)
        (OwnFrom.and (ownFrom_pure _ _) (OwnFrom.and (Own.from (boxed_own _ _ _) _) (OwnFrom.and (carry_own _ _) (ownFrom_below (Nat.le_refl _) (by omega)))))
        (fun c => ?own)
        ⟨List.nil_prefix, hib2, Carry.refl _ _, hB2⟩
        (fun x a' W => ∃ u71 u72 u73 u74 u75 u76 u77 u78 u79 u80 u81 u82 u83 u84 u85 u86 u87 u88 u89 u90 u91 u92 u93 u94 u95 : Value, a' = { tmps := #[.string s, .int .i64 st, .int .i64 inn, undef, .pointer (some ⟨w.heap.size, 0, none⟩), .pointer (some ⟨w.heap.size + 1, 0, none⟩), .pointer (some ⟨w.heap.size + 2, 0, none⟩), .pointer (some ⟨w1, 0, none⟩), .pointer (some ⟨w1 + 2, 0, none⟩), .pointer (some ⟨X.heap.size, 0, none⟩), .pointer (some ⟨X.heap.size + 1, 0, none⟩), .string ⟨x.toArray⟩, undef, undef, .string s, .slice (some ⟨gb, 0, none⟩) L.length cc, .string s, .func (.func 39) #[] #[.pointer (some ⟨w1 + 1, 0, none⟩)], .func (.func 39) #[] #[.pointer (some ⟨w1 + 1, 0, none⟩)], .bool false, .int .i64 1, .bool true, .int .i64 0, .int .i64 1, .func (.func 39) #[] #[.pointer (some ⟨w1 + 1, 0, none⟩)], .string ⟨x.toArray⟩, undef, undef, undef, undef, undef, undef, undef, undef, undef, undef, undef, undef, undef, undef, undef, undef, undef, undef, undef, undef, undef, undef, undef, undef, undef, undef, undef, undef, undef, undef, undef, undef, undef, undef, undef, undef, undef, undef, undef, undef, undef, undef, undef, undef, undef, u71, u72, u73, u74, u75, u76, u77, u78, u79, u80, u81, u82, u83, u84, u85, u86, u87, u88, u89, u90, u91, u92, u93, u94, u95], defers := [] }) (fun x a' => ownFrom_pure _ _) ?assign ?body ?done ?stop
      case own =>
        exact OwnFrom.and (ownFrom_pure _ (fun _ => c = .ret)) (ownFrom_pure _ (fun (pre : List (List UInt8)) => ¬ pre <+: L))
      case assign =>
        intro l pre x V K hI hK
        unfold segEnc
        gi_wp2
        exact hK _ _ (KeepsFrom.refl _ _) rfl hI ⟨_, _, _, _, _, _, _, _, _, _, _, _, _, _, _, _, _, _, _, _, _, _, _, _, _, rfl⟩
      case body =>
        rintro l pre x a' V hl ⟨r0, hr0⟩ ⟨hpre, hbi, hCa, hBX⟩ ⟨u71, u72, u73, u74, u75, u76, u77, u78, u79, u80, u81, u82, u83, u84, u85, u86, u87, u88, u89, u90, u91, u92, u93, u94, u95, rfl⟩ hlt
        have E := hE2.carry hCa (by omega)
        have h4 := E.b4.cell
        have h5 := E.b5.cell
        have h6 := E.b6.cell
        have h7 := E.b7.cell
        have h8 := E.b8.cell
        have hat := E.at' pre.length hlt
        have h9 := (hCa.box hkb2 (by omega)).cell
        have h10 := hbi.cell
        have hsn := prefix_snoc hpre hlt x
        generalize L[pre.length] = y at hat hsn
        have e1 : decide ((L.length : Int) ≤ (pre.length : Int)) = false := decide_eq_false (by omega)
        have h8j := fun o => (E.b8.alloc o).cell
        have f6 := frozen_of_row _ _ 0 _ _ E.b6
        have f10 := frozen_of_row _ _ 0 _ _ hbi
        have hXs : X.heap.size + 2 ≤ V.heap.size := by have := hCa.1; omega
        obtain ⟨xB, hxB⟩ : ∃ xB : ByteArray, xB = ⟨x.toArray⟩ := ⟨_, rfl⟩
        obtain ⟨yB, hyB⟩ : ∃ yB : ByteArray, yB = ⟨y.toArray⟩ := ⟨_, rfl⟩
        have hxy : x = y ↔ xB = yB := by
          rw [hxB, hyB]
          constructor
          · rintro rfl; rfl
          · intro h; have := congrArg (fun z : ByteArray => z.data.toList) h; simpa using this
        rw [hxy] at hsn
        rw [← hyB] at hat
        rw [← hxB]
        have hlen : (((pre ++ [x]).length : Nat) : Int) = (pre.length : Int) + 1 := by simp
        have hfin : ∀ Z : World, Boxed Z (X.heap.size + 1) 3 (.int .i64 (pre.length : Nat)) → Carry W2 (X.heap.size + 1) Z → Below w.heap.size w Z → KeepsFrom W2.heap.size V Z → Z.heap[w1 + 1]? = V.heap[w1 + 1]? →
            KeepsFrom W2.heap.size V (Z.setCell ⟨X.heap.size + 1, 0, none⟩ (.int .i64 ((pre.length : Int) + 1))) ∧ (Z.setCell ⟨X.heap.size + 1, 0, none⟩ (.int .i64 ((pre.length : Int) + 1))).heap[w1 + 1]? = V.heap[w1 + 1]? ∧
            Boxed (Z.setCell ⟨X.heap.size + 1, 0, none⟩ (.int .i64 ((pre.length : Int) + 1))) (X.heap.size + 1) 3 (.int .i64 ((pre ++ [x]).length : Nat)) ∧ Carry W2 (X.heap.size + 1) (Z.setCell ⟨X.heap.size + 1, 0, none⟩ (.int .i64 ((pre.length : Int) + 1))) ∧ Below w.heap.size w (Z.setCell ⟨X.heap.size + 1, 0, none⟩ (.int .i64 ((pre.length : Int) + 1))) := by
          intro Z hZ hc hb hk hp
          rw [hlen]
          exact ⟨hk.trans ((KeepsOthers.setCell _ _ _).from _), (heap_setCell_other _ _ _ _ (by show w1 + 1 ≠ X.heap.size + 1; omega)).trans hp, hZ.set _, hc.set _, hb.setCell (p := ⟨X.heap.size + 1, 0, none⟩) (by show w.heap.size ≤ X.heap.size + 1; omega) _⟩
        have hl0 : ∀ o, (V.alloc o).heap[l]? = some (.loop r0) := fun o => (Below.heap_alloc _ _ _ (Array.getElem?_eq_some_iff.1 hr0).1).trans hr0
        have HL0 := Lib.hid hl0
        have HFIN := Lib.hid hfin
        have HLEN := Lib.hid hlen
        clear hfin hlen hl0 hr0
        have HSN := Lib.hid hsn
        have HBI := Lib.hid hbi
        have HCA := Lib.hid hCa
        have HBX := Lib.hid hBX
        have HE := Lib.hid E
        clear hbi hsn hxy hxB hyB hCa hBX E
        by_cases hxy : xB = yB
        · subst hxy
          by_cases hin : (pre.length : Int) = inn
          · rw [← hin] at h5
            have HIN := Lib.hid hin
            clear hin
            gi_wp2
            have hY1 := HE.out.new (.cells #[.int .i64 0] 3)
            have hjb := Boxed.new V 3 (.int .i64 0)
            have hkX : KeepsFrom W2.heap.size V (V.alloc (.cells #[.int .i64 0] 3)) := (KeepsOthers.alloc _ _).from _
            have hBY := HBX.out.alloc (by omega) (.cells #[.int .i64 0] 3)
            have hiY := HBI.out.alloc (.cells #[.int .i64 0] 3)
            have hcY := HCA.out.new (.cells #[.int .i64 0] 3)
            have hl0 := HL0.out (.cells #[.int .i64 0] 3)
            have hzY : (V.alloc (.cells #[.int .i64 0] 3)).heap.size = V.heap.size + 1 := by simp
            generalize hY : V.alloc (.cells #[.int .i64 0] 3) = U at hY1 hjb hkX hBY hiY hcY hl0 hzY ⊢
            refine wpIn_rangeFunc_ownN (α := List UInt8) (l₀ := l) (r₀ := r0) rfl hl0 (by omega) (gf := 39) (lb := #[.pointer (some ⟨w1 + 1, 0, none⟩)]) rfl trivial (enters_of Try.func39 (by kernel_rfl) rfl)
              (SeqStopsK.inRound l (HST.out 7 U (w1 + 1) (by omega) hY1.bp)) (fun h k => k.trans h) (fun W l o o' hl h1 h2 h3 => World.putObj_heap_other (by omega)) (Below.refl _ _) (fun _ => rfl)
              (fun pr Z => pr <+: L ∧ Boxed Z V.heap.size 3 (.int .i64 (pr.length : Nat)) ∧ Carry U V.heap.size Z ∧ KeepsFrom W2.heap.size V Z ∧ Below w.heap.size w Z)
              (fun c pr Z => c = .ret ∧ ¬ pr <+: L)
              (OwnFrom.and (ownFrom_pure _ _) (OwnFrom.and (Own.from (boxed_own _ _ _) _) (OwnFrom.and (carry_own _ _) (OwnFrom.and (ownFrom_keepsFrom (by omega)) (ownFrom_below (Nat.le_refl _) (by omega))))))
              (fun c => OwnFrom.and (ownFrom_pure _ (fun _ => c = .ret)) (ownFrom_pure _ (fun (pr : List (List UInt8)) => ¬ pr <+: L)))
              ⟨List.nil_prefix, hjb, Carry.refl _ _, hkX, hBY⟩
              (fun z a' W => a' = { tmps := #[.string s, .int .i64 st, .int .i64 inn, undef, .pointer (some ⟨w.heap.size, 0, none⟩), .pointer (some ⟨w.heap.size + 1, 0, none⟩), .pointer (some ⟨w.heap.size + 2, 0, none⟩), .pointer (some ⟨w1, 0, none⟩), .pointer (some ⟨w1 + 2, 0, none⟩), .pointer (some ⟨X.heap.size, 0, none⟩), .pointer (some ⟨X.heap.size + 1, 0, none⟩), .string xB, .pointer (some ⟨V.heap.size, 0, none⟩), .string ⟨z.toArray⟩, .string s, .slice (some ⟨gb, 0, none⟩) L.length cc, .string s, .func (.func 39) #[] #[.pointer (some ⟨w1 + 1, 0, none⟩)], .func (.func 39) #[] #[.pointer (some ⟨w1 + 1, 0, none⟩)], .bool false, .int .i64 1, .bool true, .int .i64 0, .int .i64 1, .func (.func 39) #[] #[.pointer (some ⟨w1 + 1, 0, none⟩)], .string xB, .int .i64 (pre.length : Nat), .slice (some ⟨gb, 0, none⟩) L.length cc, .int .i64 (L.length : Nat), .bool false, .bool false, .string xB, .slice (some ⟨gb, 0, none⟩) L.length cc, .int .i64 (pre.length : Nat), .pointer (some ⟨gb, pre.length, none⟩), .string xB, .bool false, .bool false, .int .i64 (pre.length : Nat), .int .i64 (pre.length : Nat), .bool true, .func (.func 39) #[] #[.pointer (some ⟨w1 + 1, 0, none⟩)], .string ⟨z.toArray⟩, undef, undef, undef, undef, undef, undef, undef, undef, undef, undef, undef, undef, undef, undef, undef, undef, undef, undef, undef, undef, undef, undef, undef, undef, undef, undef, undef, undef, u71, u72, u73, u74, u75, u76, u77, u78, u79, u80, u81, u82, u83, u84, u85, u86, u87, u88, u89, u90, u91, u92, u93, u94, u95], defers := [] }) (fun z a' => ownFrom_pure _ _) ?assign2 ?body2 ?done2 ?stop2
            case assign2 =>
              intro l2 pr z Z K hI hK
              unfold segEnc
              gi_wp2
              exact hK _ _ (KeepsFrom.refl _ _) rfl hI rfl
            case stop2 =>
              rintro c pr Z hSp ⟨_, hn⟩
              exact absurd hSp hn
            case body2 =>
              rintro l2 pr z a' Z hl2 _ ⟨hpr, hji, hCZ, hkZ, hBZ⟩ rfl hlt2
              have EZ := hY1.carry hCZ (by omega)
              have h6 := EZ.b6.cell
              have h7 := EZ.b7.cell
              have hat2 := EZ.at' pr.length hlt2
              have hsn2 := prefix_snoc hpr hlt2 z
              have h12 := hji.cell
              generalize L[pr.length] = u at hat2 hsn2
              have e1 : decide ((L.length : Int) ≤ (pr.length : Int)) = false := decide_eq_false (by omega)
              have f6 := frozen_of_row _ _ 0 _ _ EZ.b6
              have f12 := frozen_of_row _ _ 0 _ _ hji
              have hlen2 : (((pr ++ [z]).length : Nat) : Int) = (pr.length : Int) + 1 := by simp
              obtain ⟨zB, hzB⟩ : ∃ zB : ByteArray, zB = ⟨z.toArray⟩ := ⟨_, rfl⟩
              obtain ⟨uB, huB⟩ : ∃ uB : ByteArray, uB = ⟨u.toArray⟩ := ⟨_, rfl⟩
              have hzu : z = u ↔ zB = uB := by
                rw [hzB, huB]
                constructor
                · rintro rfl; rfl
                · intro h; have := congrArg (fun z : ByteArray => z.data.toList) h; simpa using this
              rw [hzu] at hsn2
              rw [← huB] at hat2
              rw [← hzB]
              have hfin2 : KeepsFrom U.heap.size Z (Z.setCell ⟨V.heap.size, 0, none⟩ (.int .i64 ((pr.length : Int) + 1))) ∧ (Z.setCell ⟨V.heap.size, 0, none⟩ (.int .i64 ((pr.length : Int) + 1))).heap[w1 + 1]? = Z.heap[w1 + 1]? ∧
                  Boxed (Z.setCell ⟨V.heap.size, 0, none⟩ (.int .i64 ((pr.length : Int) + 1))) V.heap.size 3 (.int .i64 ((pr ++ [z]).length : Nat)) ∧ Carry U V.heap.size (Z.setCell ⟨V.heap.size, 0, none⟩ (.int .i64 ((pr.length : Int) + 1))) ∧
                  KeepsFrom W2.heap.size V (Z.setCell ⟨V.heap.size, 0, none⟩ (.int .i64 ((pr.length : Int) + 1))) ∧ Below w.heap.size w (Z.setCell ⟨V.heap.size, 0, none⟩ (.int .i64 ((pr.length : Int) + 1))) := by
                rw [hlen2]
                exact ⟨(KeepsOthers.setCell _ _ _).from _, heap_setCell_other _ _ _ _ (by show w1 + 1 ≠ V.heap.size; omega), hji.set _, hCZ.set _, hkZ.trans ((KeepsOthers.setCell _ _ _).from _), hBZ.setCell (p := ⟨V.heap.size, 0, none⟩) (by show w.heap.size ≤ V.heap.size; omega) _⟩
              have HSN2 := Lib.hid hsn2
              have HF2 := Lib.hid hfin2
              clear hji hsn2 hzu hzB huB hCZ hBZ hkZ EZ hfin2 hlen2
              by_cases hzu : zB = uB
              · subst hzu
                gi_wp2
                obtain ⟨k1, k2, k3, k4, k5, k6⟩ := HF2.out
                exact ⟨by simpa only [hzY, hz2] using k1, k2, HSN2.out.2 (by first | trivial | rfl), k3, k4, (by simpa only [hz2] using k5), k6⟩
              · have e6 : ¬ zB.toList = uB.toList := fun h => by
                  rw [Lib.toList_data, Lib.toList_data] at h
                  exact hzu (ByteArray.ext (Array.toList_inj.1 h))
                have e5 : (zB.toList == uB.toList) = false := beq_eq_false_iff_ne.2 e6
                gi_wp2
                exact ⟨(KeepsOthers.setCell _ _ _).from _, ⟨rfl, fun h => hzu (HSN2.out.1 h)⟩⟩
            case done2 =>
              rintro ys Z rfl ⟨hpr, hji, hCZ, hkZ, hBZ⟩
              have EZ := hY1.carry hCZ (by omega)
              have hcZ := hcY.then hCZ (by omega)
              have hiZ := hCZ.box hiY (by omega)
              have hpZ : Z.heap[w1 + 1]? = V.heap[w1 + 1]? := EZ.bp.trans HE.out.bp.symm
              obtain ⟨k1, k2, k3, k4, k5⟩ := HFIN.out Z hiZ hcZ hBZ hkZ hpZ
              have h4 := EZ.b4.cell
              have h7 := EZ.b7.cell
              have h9 := (hcZ.box hkb2 (by omega)).cell
              have h10 := hiZ.cell
              have h12 := hji.cell
              have f10 := frozen_of_row _ _ 0 _ _ hiZ
              have K1' := Lib.hid k1
              have K2' := Lib.hid k2
              have K3' := Lib.hid k3
              have K4' := Lib.hid k4
              have K5' := Lib.hid k5
              clear k1 k2 k3 k4 k5 hpr hji hCZ hkZ hBZ EZ hcZ hiZ hpZ hiY hcY hY1 hjb hkX hBY
              gi_wp2
              exact ⟨K1'.out, K2'.out, HSN.out.2 (by first | trivial | rfl), K3'.out, K4'.out, K5'.out⟩
          · gi_wp2
            obtain ⟨k1, k2, k3, k4, k5⟩ := HFIN.out V HBI.out HCA.out HBX.out (KeepsFrom.refl _ _) rfl
            rw [hz2] at k1
            exact ⟨k1, k2, HSN.out.2 (by first | trivial | rfl), k3, k4, k5⟩
        · have e6 : ¬ xB.toList = yB.toList := fun h => by
            rw [Lib.toList_data, Lib.toList_data] at h
            exact hxy (ByteArray.ext (Array.toList_inj.1 h))
          have e5 : (xB.toList == yB.toList) = false := beq_eq_false_iff_ne.2 e6
          gi_wp2
          exact ⟨(KeepsOthers.setCell _ _ _).from _, ⟨rfl, fun h => hxy (HSN.out.1 h)⟩⟩
      case done =>
        rintro D2 ys V hD2 rfl ⟨hpre, hbi, hCa, hBV⟩ hK2
        have E := hE2.carry hCa (by omega)
        refine a6 _ _ ?_
        have h4 := E.b4.cell
        have h6 := E.b6.cell
        have h7 := E.b7.cell
        have h9 := (hCa.box hkb2 (by omega)).cell
        have h10 := hbi.cell
        have h6j := fun o => (E.b6.alloc o).cell
        have f6j := fun o => frozen_of_row _ _ 0 _ _ (E.b6.alloc o)
        have HDD := Lib.hid (Carry.box' hCa HD2.out rfl hib2)
        have HK2 := Lib.hid hK2
        have HBV := Lib.hid hBV
        have HB6 := Lib.hid E.b6
        have hDV : D ≠ D2 := by omega
        clear hpre hbi hCa hK2 hBV E
        gi_wp2
        rw [roundsIn_succ]
        gi_wp2
        have hVa := HB6.out.alloc (.cells #[.int .i64 2] 3)
        have hlD2 := lt_of_block HK2.out
        have hlD := lt_of_block HDD.out
        have hk2 : ((V.alloc (.cells #[.int .i64 2] 3)).setCell ⟨w.heap.size + 2, 0, none⟩ (.bool true)).heap[D2]? = some (.deferred (some [])) := (Below.heap_setCell _ _ _ _ (by show D2 ≠ w.heap.size + 2; omega)).trans ((Below.heap_alloc _ _ _ hlD2).trans HK2.out)
        have hk1 : ((V.alloc (.cells #[.int .i64 2] 3)).setCell ⟨w.heap.size + 2, 0, none⟩ (.bool true)).heap[D]? = some (.deferred (some [])) := (Below.heap_setCell _ _ _ _ (by show D ≠ w.heap.size + 2; omega)).trans ((Below.heap_alloc _ _ _ hlD).trans HDD.out)
        have hset := hVa.set (.bool true)
        have hBZ := (HBV.out.alloc HBV.out.size (.cells #[.int .i64 2] 3)).setCell (p := ⟨w.heap.size + 2, 0, none⟩) (by show w.heap.size ≤ w.heap.size + 2; omega) (.bool true)
        generalize (V.alloc (.cells #[.int .i64 2] 3)).setCell ⟨w.heap.size + 2, 0, none⟩ (.bool true) = Z at hk2 hk1 hset hBZ ⊢
        have hcell : ((Z.putObj D2 (.deferred none)).putObj D (.deferred none)).cell? ⟨w.heap.size + 2, 0, none⟩ = some (.bool true) := cell_of_one ((World.putObj_heap_other (by omega)).trans ((World.putObj_heap_other (by omega)).trans hset))
        show LeavesInM Fence.wide 10 _ _ _ _ _ .returning _
        refine leaves2c (v := .bool true) (a := { tmps := _, defers := [{ target := .collected D2, args := #[] }, { target := .collected D, args := #[] }] }) rfl hDV hk1 hk2 (by simp [results, Try.results4, go_sem, hcell]) ⟨rfl, ?_⟩
        have hgr := (hBZ.grown (grownBy_putObj' _ D2 (.deferred none)) hBZ.size (fun k e => by cases e; omega))
        exact hgr.grown (grownBy_putObj' _ D (.deferred none)) hgr.size (fun k e => by cases e; omega)
      case stop =>
        rintro D2 c pre V hD2 hSp ⟨_, hn⟩ hK2
        exact absurd hSp hn)
  refine wpIn_rangeFunc_ownH (α := List UInt8) rfl (by omega) (gf := 39) (lb := #[.pointer (some ⟨w1 + 1, 0, none⟩)]) rfl trivial (enters_of Try.func39 (by kernel_rfl) rfl)
    (HST.out 9 W1 (w1 + 1) (by omega) hE1.bp) (fun h k => k.trans h) (fun W l o o' hl h1 h2 h3 => World.putObj_heap_other (by omega)) (Below.refl _ _) (fun _ => rfl)
    (fun pre X => pre <+: L ∧ Boxed X (w1 + 4) 3 (.int .i64 (pre.length : Nat)) ∧ Carry W1 (w1 + 4) X ∧ Below w.heap.size w X)
    (fun c pre X => (c = .ret ∧ ¬ pre <+: L) ∨ (c = .exit 2 ∧ (pre.length : Int) = wrap64 (st + 1) ∧ Boxed X (w1 + 4) 3 (.int .i64 (pre.length : Nat)) ∧ Carry W1 (w1 + 4) X ∧ Below w.heap.size w X))
    (OwnFrom.and (ownFrom_pure _ _) (OwnFrom.and (Own.from (boxed_own _ _ _) _) (OwnFrom.and (carry_own _ _) (ownFrom_below (Nat.le_refl _) (by omega)))))
    (fun c => ?own)
    ⟨List.nil_prefix, hib, Carry.refl _ _, hB1⟩
    (fun x a' W => a' = { tmps := #[.string s, .int .i64 st, .int .i64 inn, undef, .pointer (some ⟨w.heap.size, 0, none⟩), .pointer (some ⟨w.heap.size + 1, 0, none⟩), .pointer (some ⟨w.heap.size + 2, 0, none⟩), .pointer (some ⟨w1, 0, none⟩), .pointer (some ⟨w1 + 2, 0, none⟩), .pointer (some ⟨w1 + 3, 0, none⟩), .pointer (some ⟨w1 + 4, 0, none⟩), .string ⟨x.toArray⟩, undef, undef, .string s, .slice (some ⟨gb, 0, none⟩) L.length cc, .string s, .func (.func 39) #[] #[.pointer (some ⟨w1 + 1, 0, none⟩)], .func (.func 39) #[] #[.pointer (some ⟨w1 + 1, 0, none⟩)], .bool false, .int .i64 0, .bool true, undef, undef, .func (.func 39) #[] #[.pointer (some ⟨w1 + 1, 0, none⟩)], .string ⟨x.toArray⟩, undef, undef, undef, undef, undef, undef, undef, undef, undef, undef, undef, undef, undef, undef, undef, undef, undef, undef, undef, undef, undef, undef, undef, undef, undef, undef, undef, undef, undef, undef, undef, undef, undef, undef, undef, undef, undef, undef, undef, undef, undef, undef, undef, undef, undef, undef, undef, undef, undef, undef, undef, undef, undef, undef, undef, undef, undef, undef, undef, undef, undef, undef, undef, undef, undef, undef, undef, undef, undef, undef], defers := [] }) (fun x a' => ownFrom_pure _ _) ?assign ?body ?done ?stop
  case own =>
    refine ownFrom_or (ownFrom_pure _ _) (OwnFrom.and (ownFrom_pure _ _) (OwnFrom.and (ownFrom_pure _ (fun (pre : List (List UInt8)) => (pre.length : Int) = wrap64 (st + 1))) (OwnFrom.and (Own.from (boxed_own _ _ _) _) (OwnFrom.and (carry_own _ _) (ownFrom_below (Nat.le_refl _) (by omega))))))
  case assign =>
    intro l pre x X K hI hK
    unfold segEnc
    gi_wp2
    exact hK _ _ (KeepsFrom.refl _ _) rfl hI rfl
  case body =>
    rintro l pre x a' X hl ⟨r0, hr0⟩ ⟨hpre, hbi, hCa, hBX⟩ rfl hlt
    have E := hE1.carry hCa (by omega)
    have h4 := E.b4.cell
    have h5 := E.b5.cell
    have h6 := E.b6.cell
    have h7 := E.b7.cell
    have h8 := E.b8.cell
    have hat := E.at' pre.length hlt
    have h9 := (hCa.box hkb (by omega)).cell
    have h10 := hbi.cell
    have hsn := prefix_snoc hpre hlt x
    generalize L[pre.length] = y at hat hsn
    have e1 : decide ((L.length : Int) ≤ (pre.length : Int)) = false := decide_eq_false (by omega)
    have h8j := fun o => (E.b8.alloc o).cell
    have f6 := frozen_of_row _ _ 0 _ _ E.b6
    have f10 := frozen_of_row _ _ 0 _ _ hbi
    have hXs : w1 + 5 ≤ X.heap.size := by have := hCa.1; omega
    obtain ⟨xB, hxB⟩ : ∃ xB : ByteArray, xB = ⟨x.toArray⟩ := ⟨_, rfl⟩
    obtain ⟨yB, hyB⟩ : ∃ yB : ByteArray, yB = ⟨y.toArray⟩ := ⟨_, rfl⟩
    have hxy : x = y ↔ xB = yB := by
      rw [hxB, hyB]
      constructor
      · rintro rfl; rfl
      · intro h; have := congrArg (fun z : ByteArray => z.data.toList) h; simpa using this
    rw [hxy] at hsn
    rw [← hyB] at hat
    rw [← hxB]
    have hlen : (((pre ++ [x]).length : Nat) : Int) = (pre.length : Int) + 1 := by simp
    have hfin : ∀ Z : World, Boxed Z (w1 + 4) 3 (.int .i64 (pre.length : Nat)) → Carry W1 (w1 + 4) Z → Below w.heap.size w Z → KeepsFrom W1.heap.size X Z → Z.heap[w1 + 1]? = X.heap[w1 + 1]? →
        KeepsFrom W1.heap.size X (Z.setCell ⟨w1 + 4, 0, none⟩ (.int .i64 ((pre.length : Int) + 1))) ∧ (Z.setCell ⟨w1 + 4, 0, none⟩ (.int .i64 ((pre.length : Int) + 1))).heap[w1 + 1]? = X.heap[w1 + 1]? ∧
        Boxed (Z.setCell ⟨w1 + 4, 0, none⟩ (.int .i64 ((pre.length : Int) + 1))) (w1 + 4) 3 (.int .i64 ((pre ++ [x]).length : Nat)) ∧ Carry W1 (w1 + 4) (Z.setCell ⟨w1 + 4, 0, none⟩ (.int .i64 ((pre.length : Int) + 1))) ∧ Below w.heap.size w (Z.setCell ⟨w1 + 4, 0, none⟩ (.int .i64 ((pre.length : Int) + 1))) := by
      intro Z hZ hc hb hk hp
      rw [hlen]
      exact ⟨hk.trans ((KeepsOthers.setCell _ _ _).from _), (heap_setCell_other _ _ _ _ (by simp)).trans hp, hZ.set _, hc.set _, hb.setCell (p := ⟨w1 + 4, 0, none⟩) (by show w.heap.size ≤ w1 + 4; omega) _⟩
    have hl0 : ∀ o, (X.alloc o).heap[l]? = some (.loop r0) := fun o => (Below.heap_alloc _ _ _ (Array.getElem?_eq_some_iff.1 hr0).1).trans hr0
    have HL0 := Lib.hid hl0
    have HFIN := Lib.hid hfin
    have HLEN := Lib.hid hlen
    clear hfin hlen hl0 hr0
    have HSN := Lib.hid hsn
    have HBI := Lib.hid hbi
    have HCA := Lib.hid hCa
    have HBX := Lib.hid hBX
    have HE := Lib.hid E
    clear hbi hsn hxy hxB hyB hCa hBX E
    by_cases hxy : xB = yB
    · subst hxy
      by_cases hin : (pre.length : Int) = inn
      · rw [← hin] at h5
        have HIN := Lib.hid hin
        clear hin
        gi_wp2
        have hY1 := HE.out.new (.cells #[.int .i64 0] 3)
        have hjb := Boxed.new X 3 (.int .i64 0)
        have hkX : KeepsFrom W1.heap.size X (X.alloc (.cells #[.int .i64 0] 3)) := (KeepsOthers.alloc _ _).from _
        have hBY := HBX.out.alloc (by omega) (.cells #[.int .i64 0] 3)
        have hiY := HBI.out.alloc (.cells #[.int .i64 0] 3)
        have hcY := HCA.out.new (.cells #[.int .i64 0] 3)
        have hl0 := HL0.out (.cells #[.int .i64 0] 3)
        have hzY : (X.alloc (.cells #[.int .i64 0] 3)).heap.size = X.heap.size + 1 := by simp
        generalize hY : X.alloc (.cells #[.int .i64 0] 3) = Y at hY1 hjb hkX hBY hiY hcY hl0 hzY ⊢
        refine wpIn_rangeFunc_ownN (α := List UInt8) (l₀ := l) (r₀ := r0) rfl hl0 (by omega) (gf := 39) (lb := #[.pointer (some ⟨w1 + 1, 0, none⟩)]) rfl trivial (enters_of Try.func39 (by kernel_rfl) rfl)
          (SeqStopsK.inRound l (HST.out 7 Y (w1 + 1) (by omega) hY1.bp)) (fun h k => k.trans h) (fun W l o o' hl h1 h2 h3 => World.putObj_heap_other (by omega)) (Below.refl _ _) (fun _ => rfl)
          (fun pr Z => pr <+: L ∧ Boxed Z X.heap.size 3 (.int .i64 (pr.length : Nat)) ∧ Carry Y X.heap.size Z ∧ KeepsFrom W1.heap.size X Z ∧ Below w.heap.size w Z)
          (fun c pr Z => c = .ret ∧ ¬ pr <+: L)
          (OwnFrom.and (ownFrom_pure _ _) (OwnFrom.and (Own.from (boxed_own _ _ _) _) (OwnFrom.and (carry_own _ _) (OwnFrom.and (ownFrom_keepsFrom (by omega)) (ownFrom_below (Nat.le_refl _) (by omega))))))
          (fun c => OwnFrom.and (ownFrom_pure _ (fun _ => c = .ret)) (ownFrom_pure _ (fun (pr : List (List UInt8)) => ¬ pr <+: L)))
          ⟨List.nil_prefix, hjb, Carry.refl _ _, hkX, hBY⟩
          (fun z a' W => a' = { tmps := #[.string s, .int .i64 st, .int .i64 inn, undef, .pointer (some ⟨w.heap.size, 0, none⟩), .pointer (some ⟨w.heap.size + 1, 0, none⟩), .pointer (some ⟨w.heap.size + 2, 0, none⟩), .pointer (some ⟨w1, 0, none⟩), .pointer (some ⟨w1 + 2, 0, none⟩), .pointer (some ⟨w1 + 3, 0, none⟩), .pointer (some ⟨w1 + 4, 0, none⟩), .string xB, .pointer (some ⟨X.heap.size, 0, none⟩), .string ⟨z.toArray⟩, .string s, .slice (some ⟨gb, 0, none⟩) L.length cc, .string s, .func (.func 39) #[] #[.pointer (some ⟨w1 + 1, 0, none⟩)], .func (.func 39) #[] #[.pointer (some ⟨w1 + 1, 0, none⟩)], .bool false, .int .i64 0, .bool true, undef, undef, .func (.func 39) #[] #[.pointer (some ⟨w1 + 1, 0, none⟩)], .string xB, .int .i64 (pre.length : Nat), .slice (some ⟨gb, 0, none⟩) L.length cc, .int .i64 (L.length : Nat), .bool false, .bool false, .string xB, .slice (some ⟨gb, 0, none⟩) L.length cc, .int .i64 (pre.length : Nat), .pointer (some ⟨gb, pre.length, none⟩), .string xB, .bool false, .bool false, .int .i64 (pre.length : Nat), .int .i64 (pre.length : Nat), .bool true, .func (.func 39) #[] #[.pointer (some ⟨w1 + 1, 0, none⟩)], .string ⟨z.toArray⟩, undef, undef, undef, undef, undef, undef, undef, undef, undef, undef, undef, undef, undef, undef, undef, undef, undef, undef, undef, undef, undef, undef, undef, undef, undef, undef, undef, undef, undef, undef, undef, undef, undef, undef, undef, undef, undef, undef, undef, undef, undef, undef, undef, undef, undef, undef, undef, undef, undef, undef, undef, undef, undef], defers := [] }) (fun z a' => ownFrom_pure _ _) ?assign2 ?body2 ?done2 ?stop2
        case assign2 =>
          intro l2 pr z Z K hI hK
          unfold segEnc
          gi_wp2
          exact hK _ _ (KeepsFrom.refl _ _) rfl hI rfl
        case stop2 =>
          rintro c pr Z hSp ⟨_, hn⟩
          exact absurd hSp hn
        case body2 =>
          rintro l2 pr z a' Z hl2 _ ⟨hpr, hji, hCZ, hkZ, hBZ⟩ rfl hlt2
          have EZ := hY1.carry hCZ (by omega)
          have h6 := EZ.b6.cell
          have h7 := EZ.b7.cell
          have hat2 := EZ.at' pr.length hlt2
          have hsn2 := prefix_snoc hpr hlt2 z
          have h12 := hji.cell
          generalize L[pr.length] = u at hat2 hsn2
          have e1 : decide ((L.length : Int) ≤ (pr.length : Int)) = false := decide_eq_false (by omega)
          have f6 := frozen_of_row _ _ 0 _ _ EZ.b6
          have f12 := frozen_of_row _ _ 0 _ _ hji
          have hlen2 : (((pr ++ [z]).length : Nat) : Int) = (pr.length : Int) + 1 := by simp
          obtain ⟨zB, hzB⟩ : ∃ zB : ByteArray, zB = ⟨z.toArray⟩ := ⟨_, rfl⟩
          obtain ⟨uB, huB⟩ : ∃ uB : ByteArray, uB = ⟨u.toArray⟩ := ⟨_, rfl⟩
          have hzu : z = u ↔ zB = uB := by
            rw [hzB, huB]
            constructor
            · rintro rfl; rfl
            · intro h; have := congrArg (fun z : ByteArray => z.data.toList) h; simpa using this
          rw [hzu] at hsn2
          rw [← huB] at hat2
          rw [← hzB]
          have hfin2 : KeepsFrom Y.heap.size Z (Z.setCell ⟨X.heap.size, 0, none⟩ (.int .i64 ((pr.length : Int) + 1))) ∧ (Z.setCell ⟨X.heap.size, 0, none⟩ (.int .i64 ((pr.length : Int) + 1))).heap[w1 + 1]? = Z.heap[w1 + 1]? ∧
              Boxed (Z.setCell ⟨X.heap.size, 0, none⟩ (.int .i64 ((pr.length : Int) + 1))) X.heap.size 3 (.int .i64 ((pr ++ [z]).length : Nat)) ∧ Carry Y X.heap.size (Z.setCell ⟨X.heap.size, 0, none⟩ (.int .i64 ((pr.length : Int) + 1))) ∧
              KeepsFrom W1.heap.size X (Z.setCell ⟨X.heap.size, 0, none⟩ (.int .i64 ((pr.length : Int) + 1))) ∧ Below w.heap.size w (Z.setCell ⟨X.heap.size, 0, none⟩ (.int .i64 ((pr.length : Int) + 1))) := by
            rw [hlen2]
            exact ⟨(KeepsOthers.setCell _ _ _).from _, heap_setCell_other _ _ _ _ (by show w1 + 1 ≠ X.heap.size; omega), hji.set _, hCZ.set _, hkZ.trans ((KeepsOthers.setCell _ _ _).from _), hBZ.setCell (p := ⟨X.heap.size, 0, none⟩) (by show w.heap.size ≤ X.heap.size; omega) _⟩
          have HSN2 := Lib.hid hsn2
          have HF2 := Lib.hid hfin2
          clear hji hsn2 hzu hzB huB hCZ hBZ hkZ EZ hfin2 hlen2
          by_cases hzu : zB = uB
          · subst hzu
            gi_wp2
            obtain ⟨k1, k2, k3, k4, k5, k6⟩ := HF2.out
            exact ⟨by simpa only [hzY, hz1] using k1, k2, HSN2.out.2 (by first | trivial | rfl), k3, k4, (by simpa only [hz1] using k5), k6⟩
          · have e6 : ¬ zB.toList = uB.toList := fun h => by
              rw [Lib.toList_data, Lib.toList_data] at h
              exact hzu (ByteArray.ext (Array.toList_inj.1 h))
            have e5 : (zB.toList == uB.toList) = false := beq_eq_false_iff_ne.2 e6
            gi_wp2
            exact ⟨(KeepsOthers.setCell _ _ _).from _, ⟨rfl, fun h => hzu (HSN2.out.1 h)⟩⟩
        case done2 =>
          rintro ys Z rfl ⟨hpr, hji, hCZ, hkZ, hBZ⟩
          have EZ := hY1.carry hCZ (by omega)
          have hcZ := hcY.then hCZ (by omega)
          have hiZ := hCZ.box hiY (by omega)
          have hpZ : Z.heap[w1 + 1]? = X.heap[w1 + 1]? := EZ.bp.trans HE.out.bp.symm
          obtain ⟨k1, k2, k3, k4, k5⟩ := HFIN.out Z hiZ hcZ hBZ hkZ hpZ
          have h4 := EZ.b4.cell
          have h7 := EZ.b7.cell
          have h9 := (hcZ.box hkb (by omega)).cell
          have h10 := hiZ.cell
          have h12 := hji.cell
          have f10 := frozen_of_row _ _ 0 _ _ hiZ
          have K1' := Lib.hid k1
          have K2' := Lib.hid k2
          have K3' := Lib.hid k3
          have K4' := Lib.hid k4
          have K5' := Lib.hid k5
          clear k1 k2 k3 k4 k5 hpr hji hCZ hkZ hBZ EZ hcZ hiZ hpZ hiY hcY hY1 hjb hkX hBY
          by_cases hst : (pre.length : Int) + 1 = wrap64 (st + 1)
          · gi_wp2
            have k1 := K1'.out
            have k3 := K3'.out
            have k4 := K4'.out
            have k5 := K5'.out
            rw [hst] at k1 k3 k4 k5
            exact ⟨k1, .inr ⟨rfl, HLEN.out.trans hst, k3, k4, k5⟩⟩
          · gi_wp2
            exact ⟨K1'.out, K2'.out, HSN.out.2 (by first | trivial | rfl), K3'.out, K4'.out, K5'.out⟩
      · by_cases hst : (pre.length : Int) + 1 = wrap64 (st + 1)
        · gi_wp2
          obtain ⟨k1, k2, k3, k4, k5⟩ := HFIN.out X HBI.out HCA.out HBX.out (KeepsFrom.refl _ _) rfl
          rw [hz1] at k1
          rw [hst] at k1 k3 k4 k5
          exact ⟨k1, .inr ⟨rfl, HLEN.out.trans hst, k3, k4, k5⟩⟩
        · gi_wp2
          obtain ⟨k1, k2, k3, k4, k5⟩ := HFIN.out X HBI.out HCA.out HBX.out (KeepsFrom.refl _ _) rfl
          rw [hz1] at k1
          exact ⟨k1, k2, HSN.out.2 (by first | trivial | rfl), k3, k4, k5⟩
    · have e6 : ¬ xB.toList = yB.toList := fun h => by
        rw [Lib.toList_data, Lib.toList_data] at h
        exact hxy (ByteArray.ext (Array.toList_inj.1 h))
      have e5 : (xB.toList == yB.toList) = false := beq_eq_false_iff_ne.2 e6
      gi_wp2
      exact ⟨(KeepsOthers.setCell _ _ _).from _, .inl ⟨rfl, fun h => hxy (HSN.out.1 h)⟩⟩
  case done =>
    rintro D ys X hD rfl ⟨hpre, hbi, hCa, hBX⟩ hK
    exact after D _ X hD (.inl rfl) hbi hCa hBX hK
  case stop =>
    rintro D c pre X hD hSp (⟨_, hn⟩ | ⟨rfl, hst, hbi, hCa, hBX⟩) hK
    · exact absurd hSp hn
    · gi_wp2
      exact after D _ X hD (.inr hst) hbi hCa hBX hK
theorem irisegments_go' (w : World) (s : ByteArray) (hs : s.size ≤ 1048576) (st : Int) (_ : IntKind.i64.wrap st = st) (inn : Int) (_ : IntKind.i64.wrap inn = inn) :
    Calls Try.prog 4 #[.string s, .int .i64 st, .int .i64 inn] w fun e w' => e = .returned (.bool true) ∧ Below w.heap.size w w' := irisegments_go w s st inn hs
end Go.Proofs.Ythdkhlkmcebfeaa
