/- TvX TvY TvR TpC TvZ TpW, laid as one. -/
import Derived.Test.YtgajpekolamjbaaTvH
import Derived.RangeFuncNested
import Derived.RangeFuncBound
import Derived.RangeFuncCalls
import Derived.RangeFuncLeaves
import Derived.RangeFuncBox
import Derived.Shelf.Abstract
import Derived.Shelf.RegionOpen
import Derived.WalkKit
import Derived.OwnWalkIn
import Derived.LoopNIn
import Derived.LoopIn
import Derived.Test.YtgajpekolamjbaaRfI
import Derived.Test.YtgajpekolamjbaaTvM
import Derived.Test.YtgajpekolamjbaaRegIn
import Derived.Test.YtgajpekolamjbaaTpF
set_option linter.unusedVariables false
set_option linter.unusedSimpArgs false
/- Each of a viewed tree of any bytes: the iterator. -/
namespace Go.Proofs.Ytgajpekolamjbaa
open Go.RowKit Go.Shelf Go.Tk
/-- The quads from entry i on. -/
def ehT (b : List UInt8) : Nat → Nat → List (Nat × (Nat → Nat))
  | 0, _ => []
  | f + 1, i => match getT b (i : Nat) with
    | none => ehT b f (i + 1)
    | some q => (i, q) :: ehT b f (i + 1)
def eachT (b : List UInt8) (fr : Int) : List (Nat × (Nat → Nat)) := ehT b (tN b 3 - fr.toNat) fr.toNat
def encT (x : Nat × (Nat → Nat)) : Array Value := #[.int .i64 (x.1 : Nat), .agg #[.int .i64 (x.2 0 : Nat), .int .i64 (x.2 1 : Nat), .int .i64 (x.2 2 : Nat), .int .i64 (x.2 3 : Nat)]]
/-- What stood in w0, and two boxes, are as they were. -/
def KpT (w0 : World) (p1 p2 : Nat) (A B : World) : Prop := ∀ j, (j < w0.heap.size ∨ j = p1 ∨ j = p2) → B.heap[j]? = A.heap[j]?
theorem SlI_sameT {k : IntKind} {w w' : World} {a : Option Addr} {n c : Nat} {zs : List Int} (h : SlI k w a n c zs) (hs : ∀ j, j < w.heap.size → w'.heap[j]? = w.heap[j]?) : SlI k w' a n c zs :=
  ⟨h.len, h.le, h.max, fun i hi => by
    obtain ⟨b, p, rfl, hc⟩ := h.cell i hi
    exact ⟨b, p, rfl, (World.cell?_of_block (a := ⟨b, p + i, none⟩) (hs b (block_lt_of_cell hc))).trans hc⟩⟩
theorem sizeT_of_same {w0 w : World} (h : ∀ j, j < w0.heap.size → w.heap[j]? = w0.heap[j]?) : w0.heap.size ≤ w.heap.size := by
  by_cases h0 : w0.heap.size = 0
  · omega
  · have := h (w0.heap.size - 1) (by omega)
    have h2 : w0.heap.size - 1 < w0.heap.size := by omega
    rw [Array.getElem?_eq_getElem h2] at this
    have := lt_of_block this
    omega
theorem TreeM.same {w w' : World} {gd : Nat} {b : List UInt8} {a : Option Addr} {cap : Nat} {vp : Nat → Option Addr} (h : TreeM w gd b a cap vp) (hs : ∀ j, j < w.heap.size → w'.heap[j]? = w.heap[j]?) : TreeM w' gd b a cap vp :=
  ⟨(hs gd h.row.lt).trans h.row, SlI_sameT h.sl hs, h.nil, fun k hk => ⟨fun hv => by
    obtain ⟨gv, h1, h2⟩ := (h.vec k hk).1 hv
    exact ⟨gv, h1, (hs gv (lt_of_block h2.row)).trans h2.row, SlI_sameT h2.sl hs, h2.fit, h2.mn, h2.nN⟩, (h.vec k hk).2⟩, h.ok⟩
theorem get_lt {b : List UInt8} {i : Nat} {q : Nat → Nat} (h : getT b (i : Nat) = some q) : i < tN b 3 := by
  unfold getT at h
  split at h
  · cases h
  · omega
set_option maxRecDepth 100000 in
set_option maxHeartbeats 2000000 in
theorem teach1_in (n : Nat) (hn : 1 ≤ n) (l : Nat) (w0 : World) (gd : Nat) (b : List UInt8) (a : Option Addr) (cap : Nat) (vp : Nat → Option Addr) (hT : TreeM w0 gd b a cap vp) (p1 p2 : Nat) (fr : Int)
    (hfr : -9223372036854775808 ≤ fr ∧ fr ≤ 9223372036854775807) (L : List (Nat × (Nat → Nat))) (hL : L = eachT b fr) (J Jx : Nat → World → Prop)
    (hY : ∀ i W (h : i < L.length), J i W → YieldAt Fence.wide (n - 1) Try.prog l (encT L[i]) W fun e W' =>
      (e = .returned (.bool true) ∧ J (i + 1) W' ∧ KpT w0 p1 p2 W W') ∨ (e = .returned (.bool false) ∧ Jx (i + 1) W'))
    (hJd : ∀ i W W' , J i W → W.grownBy W' none → J i W')
    (W : World) (hp1 : W.heap[p1]? = some (.cells #[.int .i64 fr] 3 (0, 0))) (hp2 : W.heap[p2]? = some (.cells #[.pointer (some ⟨gd, 0, none⟩)] 39 (0, 0))) (hsame : ∀ j, j < w0.heap.size → W.heap[j]? = w0.heap[j]?) (h0 : J 0 W) :
    CallsIn Fence.wide n Try.prog 105 #[.func (.yield l) #[] #[], .pointer (some ⟨p1, 0, none⟩), .pointer (some ⟨p2, 0, none⟩)] W fun e W' => (∃ v, e = .returned v) ∧
      (J L.length W' ∨ (∃ i, i ≤ L.length ∧ Jx i W')) := by
  have b1 := cell_of_one hp1
  have b2 := cell_of_one hp2
  have HT := Lib.hid hT
  have HP1 := Lib.hid hp1
  have HP2 := Lib.hid hp2
  have HS := Lib.hid hsame
  have HL := Lib.hid hL
  obtain ⟨f0, hf0⟩ : ∃ f0 : Nat, f0 = fr.toNat := ⟨_, rfl⟩
  have hmx : max fr 0 = (f0 : Nat) := by omega
  have HF0 := Lib.hid hf0
  clear hT hp1 hp2 hsame hL hf0
  refine callsIn_of_wp Try.func105 rfl trivial ?_ rfl
  simp only [Try.ntmps105, List.size_toArray, List.length_cons, List.length_nil, Nat.reduceAdd, Nat.reduceSub, Array.replicate_succ, Array.replicate_zero, List.push_toArray, List.append_toArray, List.nil_append, List.cons_append]
  gi_wp2
  obtain ⟨N3, hN3⟩ : ∃ N3, N3 = tN b 3 := ⟨_, rfl⟩
  have hN3l : N3 ≤ 1048576 := by rw [hN3]; exact HT.out.nk (by omega)
  have HN3 := Lib.hid hN3
  clear hN3
  gi_loopw [4] (fun iv wr => ∃ (j I : Nat), iv = .int .i64 (I : Nat) ∧ f0 ≤ I ∧ j ≤ L.length ∧ L.drop j = ehT b (N3 - I) I ∧ J j wr ∧ (∀ j, j < w0.heap.size → wr.heap[j]? = w0.heap[j]?) ∧ wr.heap[p2]? = some (.cells #[.pointer (some ⟨gd, 0, none⟩)] 39 (0, 0))) (fun iv _ => N3 - (intOf iv).toNat)
  case atStart => exact ⟨0, f0, by go_num, Nat.le_refl _, Nat.zero_le _, by rw [HL.out, HN3.out, HF0.out]; rfl, h0, HS.out, HP2.out⟩
  case round =>
    obtain ⟨j, I, rfl, hI, hjL, hrest, hJ, hsm, hr2⟩ := hrel
    rename World => wr
    have q2 := cell_of_one hr2
    have lr2 := lt_of_block hr2
    have hTr := HT.out.same hsm
    have hlen := (callsIn_wide (n := n - 1)).2 (tlen_calls hTr)
    rw [← HN3.out] at hlen
    have HLEN := Lib.hid hlen
    have HR2 := Lib.hid hr2
    have HSM := Lib.hid hsm
    have HTR := Lib.hid hTr
    have HI := Lib.hid hI
    have HREST := Lib.hid hrest
    clear hlen hr2 hsm hTr hI hrest b1 b2
    by_cases hin : I < N3
    rotate_left
    · have hend : j = L.length := by
        have h1 := HREST.out
        have h2 : ehT b (N3 - I) I = [] := by rw [show N3 - I = 0 by omega]; rfl
        rw [h2] at h1
        have := List.drop_eq_nil_iff.1 h1
        omega
      have HEND := Lib.hid hend
      have d1 : decide ((I : Int) < (N3 : Int)) = false := decide_eq_false (by omega)
      have d2 : decide (I < N3) = false := decide_eq_false hin
      clear hend
      gi_wp2_with (refine ⟨trivial, ?_⟩; gi_at_call 22; refine HLEN.out.mono ?_; rintro e w1 ⟨rfl, rfl⟩)
      go_end0
      exact ⟨⟨_, rfl⟩, .inl (by rw [← HEND.out]; exact hJ)⟩
    · have d1 : decide ((I : Int) < (N3 : Int)) = true := decide_eq_true (by omega)
      have d2 : decide (I < N3) = true := decide_eq_true hin
      have hget := (callsIn_wide (n := n - 1)).2 (tget_calls wr gd b a cap vp HTR.out (I : Nat) (by omega))
      have hst : ehT b (N3 - I) I = match getT b (I : Nat) with | none => ehT b (N3 - (I + 1)) (I + 1) | some q => (I, q) :: ehT b (N3 - (I + 1)) (I + 1) := by
        rw [show N3 - I = (N3 - (I + 1)) + 1 by omega]
        rfl
      cases hg : getT b (I : Nat) with
      | none =>
        rw [hg] at hst hget
        have HGET := Lib.hid hget
        have HST := Lib.hid hst
        have hnext : L.drop j = ehT b (N3 - (I + 1)) (I + 1) := by rw [HREST.out, hst]
        have HNEXT := Lib.hid hnext
        clear hnext
        have hget2 : CallsIn Fence.wide (n - 1) Try.prog 23 #[.pointer (some ⟨gd, 0, none⟩), .int .i64 (I : Nat)] wr fun e w' => Below wr.heap.size wr w' ∧ e = .returned (.tuple #[.agg #[.int .i64 0, .int .i64 0, .int .i64 0, .int .i64 0], .bool false]) := hget
        have HGET2 := Lib.hid hget2
        clear hg hst hget hget2
        gi_wp2_with (first
          | (refine ⟨trivial, ?_⟩; gi_at_call 22; refine HLEN.out.mono ?_; rintro e w1 ⟨rfl, rfl⟩)
          | (refine ⟨trivial, ?_⟩; gi_at_call 23; refine HGET2.out.mono ?_; rintro e w2 ⟨hb2, rfl⟩; (have HB2 := Lib.hid hb2); clear hb2))
        refine ⟨(fun f h => by cases h), ?_⟩
        have hb3 := HB2.out.alloc HB2.out.size (.cells #[.int .i64 0, .int .i64 0, .int .i64 0, .int .i64 0] 24)
        have HJ3 := Lib.hid (hJd _ _ _ hJ ⟨hb3.os, hb3.tape, hb3.output, hb3.size, fun k hk _ => hb3.block k hk⟩)
        have HS3 := Lib.hid (fun j (hj : j < w0.heap.size) => (hb3.block j (by have := sizeT_of_same HSM.out; omega)).trans (HSM.out j hj))
        have HX2 := Lib.hid ((hb3.block _ lr2).trans HR2.out)
        clear hb3 hJ q2
        gi_wp2
        exact ⟨⟨j, I + 1, by go_num, by have := HI.out; omega, hjL, HNEXT.out, HJ3.out, HS3.out, HX2.out⟩, by simp [intOf]; omega⟩
      | some q =>
        rw [hg] at hst hget
        have hget2 : CallsIn Fence.wide (n - 1) Try.prog 23 #[.pointer (some ⟨gd, 0, none⟩), .int .i64 (I : Nat)] wr fun e w' => Below wr.heap.size wr w' ∧ e = .returned (.tuple #[.agg #[.int .i64 (q 0 : Nat), .int .i64 (q 1 : Nat), .int .i64 (q 2 : Nat), .int .i64 (q 3 : Nat)], .bool true]) := hget
        have hdr := HREST.out
        rw [hst] at hdr
        have hjl : j < L.length := by
          rcases Nat.lt_or_ge j L.length with h | h
          · exact h
          · rw [List.drop_eq_nil_of_le h] at hdr; cases hdr
        rw [List.drop_eq_getElem_cons hjl] at hdr
        have henc : encT L[j] = #[.int .i64 (I : Nat), .agg #[.int .i64 (q 0 : Nat), .int .i64 (q 1 : Nat), .int .i64 (q 2 : Nat), .int .i64 (q 3 : Nat)]] := by rw [(List.cons.inj hdr).1]; rfl
        have hnext : L.drop (j + 1) = ehT b (N3 - (I + 1)) (I + 1) := (List.cons.inj hdr).2
        have HGET := Lib.hid hget2
        have HENC := Lib.hid henc
        have HNEXT := Lib.hid hnext
        clear hg hst hget hget2 hdr henc hnext
        gi_wp2_with (first
          | (refine ⟨trivial, ?_⟩; gi_at_call 22; refine HLEN.out.mono ?_; rintro e w1 ⟨rfl, rfl⟩)
          | (refine ⟨trivial, ?_⟩; gi_at_call 23; refine HGET.out.mono ?_; rintro e w2 ⟨hb2, rfl⟩; (have hb3 := hb2.alloc hb2.size (.cells #[.int .i64 (q 0 : Nat), .int .i64 (q 1 : Nat), .int .i64 (q 2 : Nat), .int .i64 (q 3 : Nat)] 24)); obtain ⟨fn, tmps, assign, body, hy, hR⟩ := hY j (w2.alloc (.cells #[.int .i64 (q 0 : Nat), .int .i64 (q 1 : Nat), .int .i64 (q 2 : Nat), .int .i64 (q 3 : Nat)] 24)) hjl (hJd _ _ _ hJ ⟨hb3.os, hb3.tape, hb3.output, hb3.size, fun k hk _ => hb3.block k hk⟩); rw [HENC.out] at hy; (have HB3 := Lib.hid hb3); clear hb2 hb3))
        refine hR.mono ?_
        rintro e W3 (⟨rfl, hJ3, hk3⟩ | ⟨rfl, hJx3⟩)
        · have hs3 : ∀ j, j < w0.heap.size → W3.heap[j]? = w0.heap[j]? := fun j hj => (hk3 j (.inl hj)).trans ((HB3.out.block j (by have := sizeT_of_same HSM.out; omega)).trans (HSM.out j hj))
          have HX2 : Hid (W3.heap[p2]? = some (.cells #[.pointer (some ⟨gd, 0, none⟩)] 39 (0, 0))) := Lib.hid ((hk3 p2 (.inr (.inr rfl))).trans ((HB3.out.block _ lr2).trans HR2.out))
          have HJ3 := Lib.hid hJ3
          have HS3 := Lib.hid hs3
          clear hJ3 hs3 hk3 hJ q2 hR
          gi_wp2
          go_roundw
          case rel => exact ⟨j + 1, I + 1, by go_num, by have := HI.out; omega, by omega, HNEXT.out, HJ3.out, HS3.out, HX2.out⟩
          case measure => simp [intOf]; omega
        · gi_wp2
          refine bodyPost_ret (results_none rfl _ _ _) rfl ?_
          exact ⟨⟨_, rfl⟩, .inr ⟨_, by omega, hJx3⟩⟩
end Go.Proofs.Ytgajpekolamjbaa
/- Each of a viewed tree: the rounds by their numbers. -/
namespace Go.Proofs.Ytgajpekolamjbaa
open Go.RowKit Go.Shelf Go.Tk
theorem teachI_in (n : Nat) (hn : 1 ≤ n) (w0 : World) (gd : Nat) (b : List UInt8) (a : Option Addr) (cap : Nat) (vp : Nat → Option Addr) (hT : TreeM w0 gd b a cap vp) (p1 p2 : Nat) (fr : Int)
    (hfr : -9223372036854775808 ≤ fr ∧ fr ≤ 9223372036854775807) (L : List (Nat × (Nat → Nat))) (hL : L = eachT b fr)
    (W : World) (hp1 : W.heap[p1]? = some (.cells #[.int .i64 fr] 3 (0, 0))) (hp2 : W.heap[p2]? = some (.cells #[.pointer (some ⟨gd, 0, none⟩)] 39 (0, 0))) (hsz : w0.heap.size ≤ W.heap.size) (hsame : ∀ j, j < w0.heap.size → W.heap[j]? = w0.heap[j]?) :
    SeqI Fence.wide n Try.prog 105 #[.pointer (some ⟨p1, 0, none⟩), .pointer (some ⟨p2, 0, none⟩)] (L.map encT) (fun _ => False) (fun _ => KpT w0 p1 p2) W := by
  intro l J Jx W' hW' hA _ hY h0
  rw [List.length_map]
  refine teach1_in n hn l w0 gd b a cap vp hT p1 p2 fr hfr L hL J Jx ?_ (fun i X X' hJ hg => hA _ X X' none hJ hg (fun r e => by cases e)) W' ((hW'.block _ (lt_of_block hp1)).trans hp1) ((hW'.block _ (lt_of_block hp2)).trans hp2) (fun j hj => (hW'.block _ (by omega)).trans (hsame j hj)) h0
  intro i X hi hJ
  have := hY i X (by rw [List.length_map]; exact hi) hJ
  rw [List.getElem_map] at this
  obtain ⟨fn, tmps, assign, body, h1, h2⟩ := this
  exact ⟨fn, tmps, assign, body, h1, h2.mono fun e X' h => h.imp id fun h => ⟨h.1, h.2.1⟩⟩
end Go.Proofs.Ytgajpekolamjbaa
/- walk.level: the state in memory; what a level hands back. -/
namespace Go.Proofs.Ytgajpekolamjbaa
open Go.RowKit Go.Shelf Go.Tk
/-- The cells of a walk. -/
def wkC (gd : Nat) (ids : Qd) (l : Nat) (s : WkS) (i : Nat) : Value :=
  if i = 0 then .pointer (some ⟨gd, 0, none⟩) else if i < 5 then .int .i64 (ids.at (i - 1)) else if i < 9 then .int .i64 (s.past (i - 5) : Nat) else if i < 13 then .int .i64 (s.q (i - 9) : Nat) else .func (.yield l) #[] #[]
theorem wkC_past (gd : Nat) (ids : Qd) (l : Nat) (s : WkS) (k h : Nat) (hk : k < 4) : setF (wkC gd ids l s) (5 + k) (.int .i64 (h : Nat)) = wkC gd ids l ⟨upF s.past k h, s.q⟩ := by
  funext i
  unfold setF wkC upF
  by_cases h1 : i = 5 + k
  · subst h1
    rw [if_pos rfl, if_neg (by omega), if_neg (by omega), if_pos (by omega)]
    simp
  · rw [if_neg h1]
    by_cases h2 : 5 ≤ i ∧ i < 9
    · simp only [show i - 5 ≠ k by omega, if_false]
    · simp only
      by_cases h3 : i < 5
      · simp only [h3, if_true]
      · simp only [h3, if_false, show ¬ i < 9 by omega]
theorem wkC_q (gd : Nat) (ids : Qd) (l : Nat) (s : WkS) (k h : Nat) (hk : k < 4) : setF (wkC gd ids l s) (9 + k) (.int .i64 (h : Nat)) = wkC gd ids l ⟨s.past, upF s.q k h⟩ := by
  funext i
  unfold setF wkC upF
  by_cases h1 : i = 9 + k
  · subst h1
    rw [if_pos rfl, if_neg (by omega), if_neg (by omega), if_neg (by omega), if_pos (by omega)]
    simp
  · rw [if_neg h1]
    by_cases h2 : 9 ≤ i ∧ i < 13
    · simp only [show i - 9 ≠ k by omega, if_false]
    · simp only
      by_cases h3 : i < 9
      · simp only [h3, if_true]
      · simp only [h3, if_false, show ¬ i < 13 by omega]
/-- A walk where it lies, and the world of the tree. -/
structure WkM (w0 : World) (B gd : Nat) (ids : Qd) (l : Nat) (s : WkS) (X : World) : Prop where
  row : RowC X B 14 166 (wkC gd ids l s)
  sm : ∀ j, j < w0.heap.size → X.heap[j]? = w0.heap[j]?
section
variable {w0 : World} {B gd : Nat} {ids : Qd} {l : Nat} {s : WkS} {X : World}
theorem WkM.c0 (h : WkM w0 B gd ids l s X) : X.cell? ⟨B, 0, none⟩ = some (.pointer (some ⟨gd, 0, none⟩)) := RowC.cell h.row (i := 0) (by omega)
theorem WkM.ci (h : WkM w0 B gd ids l s X) (k : Nat) (hk : k < 4) : X.cell? ⟨B, 1 + k, none⟩ = some (.int .i64 (ids.at k)) := by
  have := RowC.cell h.row (i := 1 + k) (by omega)
  rw [this]; unfold wkC
  rw [if_neg (by omega), if_pos (by omega), show 1 + k - 1 = k by omega]
theorem WkM.cp (h : WkM w0 B gd ids l s X) (k : Nat) (hk : k < 4) : X.cell? ⟨B, 5 + k, none⟩ = some (.int .i64 (s.past k : Nat)) := by
  have := RowC.cell h.row (i := 5 + k) (by omega)
  rw [this]; unfold wkC
  rw [if_neg (by omega), if_neg (by omega), if_pos (by omega), show 5 + k - 5 = k by omega]
theorem WkM.cq (h : WkM w0 B gd ids l s X) (k : Nat) (hk : k < 4) : X.cell? ⟨B, 9 + k, none⟩ = some (.int .i64 (s.q k : Nat)) := by
  have := RowC.cell h.row (i := 9 + k) (by omega)
  rw [this]; unfold wkC
  rw [if_neg (by omega), if_neg (by omega), if_neg (by omega), if_pos (by omega), show 9 + k - 9 = k by omega]
theorem WkM.cy (h : WkM w0 B gd ids l s X) : X.cell? ⟨B, 13, none⟩ = some (.func (.yield l) #[] #[]) := RowC.cell h.row (i := 13) (by omega)
theorem WkM.drewN (h : WkM w0 B gd ids l s X) (q : Nat) : WkM w0 B gd ids l s (X.drewN q) := ⟨h.row, h.sm⟩
theorem WkM.below (h : WkM w0 B gd ids l s X) (hB : w0.heap.size ≤ B) {Y : World} (hb : Below X.heap.size X Y) : WkM w0 B gd ids l s Y :=
  ⟨h.row.below hb, fun j hj => (hb.block j (by have := h.row.lt; omega)).trans (h.sm j hj)⟩
theorem WkM.past (h : WkM w0 B gd ids l s X) (hB : w0.heap.size ≤ B) (k v : Nat) (hk : k < 4) : WkM w0 B gd ids l ⟨upF s.past k v, s.q⟩ (X.setCell ⟨B, 5 + k, none⟩ (.int .i64 (v : Nat))) :=
  ⟨by rw [← wkC_past gd ids l s k v hk]; exact h.row.set (5 + k) _, fun j hj => (heap_setCell_other X _ _ _ (by show j ≠ B; omega)).trans (h.sm j hj)⟩
theorem WkM.quad (h : WkM w0 B gd ids l s X) (hB : w0.heap.size ≤ B) (k v : Nat) (hk : k < 4) : WkM w0 B gd ids l ⟨s.past, upF s.q k v⟩ (X.setCell ⟨B, 9 + k, none⟩ (.int .i64 (v : Nat))) :=
  ⟨by rw [← wkC_q gd ids l s k v hk]; exact h.row.set (9 + k) _, fun j hj => (heap_setCell_other X _ _ _ (by show j ≠ B; omega)).trans (h.sm j hj)⟩
end
/-- What one entry brings. -/
def mtG (b : List UInt8) (ids : Qd) (k : Nat) (i : Nat) (s : WkS) : List (Nat × (Nat → Nat)) × WkS :=
  if k = 3 then ([(i, upF s.q 3 (tM b 3 i))], ⟨s.past, upF s.q 3 (tM b 3 i)⟩) else mtL b ids (3 - (k + 1)) (chL b k i) (chH b k i) ⟨s.past, upF s.q k (tM b k i)⟩
theorem mtL_eq (b : List UInt8) (ids : Qd) (k : Nat) (hk : k ≤ 3) (lo hi : Nat) (s : WkS) : mtL b ids (3 - k) lo hi s = mtB b ids k lo hi s (mtG b ids k) := by
  have : k = 0 ∨ k = 1 ∨ k = 2 ∨ k = 3 := by omega
  rcases this with rfl | rfl | rfl | rfl <;> rfl
end Go.Proofs.Ytgajpekolamjbaa
/- What Match and Each of a built tree go through. Plain. -/
namespace Go.Proofs.Ytgajpekolamjbaa
open Go.RowKit Go.Tk
/-- Places one behind another. -/
def seg (A D : Nat) : List Nat := List.range' A (D - A)
theorem seg_nil {A D : Nat} (h : D ≤ A) : seg A D = [] := by unfold seg; rw [show D - A = 0 by omega]; rfl
theorem seg_one (A : Nat) : seg A (A + 1) = [A] := by unfold seg; rw [show A + 1 - A = 1 by omega]; rfl
theorem seg_app {A C D : Nat} (h1 : A ≤ C) (h2 : C ≤ D) : seg A D = seg A C ++ seg C D := by
  unfold seg
  rw [show D - A = (C - A) + (D - C) by omega, ← List.range'_append_1, show A + (C - A) = C by omega]
theorem seg_mem {A D t : Nat} : t ∈ seg A D ↔ A ≤ t ∧ t < D := by
  unfold seg; rw [List.mem_range'_1]; omega
/-- A quad and its number, as a loop hands them. -/
def encQ (L : List Qd) (t : Nat) : Array Value := #[.int .i64 (t : Nat), .agg (qcs (qAt L t)).toArray]
theorem encT_eq {L : List Qd} {t : Nat} {f : Nat → Nat} (h : ∀ j, j < 4 → ((f j : Nat) : Int) = (qAt L t).at j) : encT (t, f) = encQ L t := by
  have h0 : ((f 0 : Nat) : Int) = (qAt L t).a := h 0 (by omega)
  have h1 : ((f 1 : Nat) : Int) = (qAt L t).b := h 1 (by omega)
  have h2 : ((f 2 : Nat) : Int) = (qAt L t).c := h 2 (by omega)
  have h3 : ((f 3 : Nat) : Int) = (qAt L t).d := h 3 (by omega)
  unfold encT encQ qcs
  simp only [h0, h1, h2, h3]
/-- Do the last numbers agree? -/
def agT (p q : Qd) : Nat → Bool
  | 0 => true
  | m + 1 => agN p q (3 - m) && agT p q m
theorem agT_all (p q : Qd) : agT p q 4 = agK p q 4 := by
  simp only [agT, agK, Nat.reduceSub, Bool.true_and, Bool.and_true, Bool.and_assoc, Nat.sub_zero]
theorem agN_free {p : Qd} {k : Nat} (h : p.at k < 0) (q : Qd) : agN p q k = true := by
  unfold agN; rw [decide_eq_false (by omega)]; rfl
theorem agN_fix {p : Qd} {k : Nat} (h : 0 ≤ p.at k) (q : Qd) : agN p q k = decide (p.at k = q.at k) := by
  unfold agN; rw [decide_eq_true h]
  by_cases e : p.at k = q.at k
  · rw [decide_eq_true e, e]; simp
  · rw [decide_eq_false e]; simp [e]
/-- What a level's walk between two places comes to. -/
structure MtOk (L : List Qd) (p : Qd) (k n m A D : Nat) (s : WkS) (r : List (Nat × (Nat → Nat)) × WkS) : Prop where
  out : r.1.map encT = ((seg A D).filter fun t => agT p (qAt L t) m).map (encQ L)
  pu : ∀ j, k ≤ j → j < 4 → r.2.past j ≤ posL L j D
  ps : ∀ j, j < k → r.2.past j = s.past j
  q : ∀ j, j < n → r.2.q j = s.q j
section
variable {b : List UInt8} {L : List Qd}
def MtH (b : List UInt8) (L : List Qd) (p : Qd) (k : Nat) : Prop :=
  ∀ (A D : Nat) (s : WkS), Rg L k A D → (∀ j, k ≤ j → j < 4 → s.past j ≤ posL L j A) → (∀ j, j < k → ∀ t, A ≤ t → t < D → ((s.q j : Nat) : Int) = (qAt L t).at j) →
    MtOk L p k k (4 - k) A D s (mtL b p (3 - k) (posL L k A) (posL L k D) s)
theorem Blt.mtg (B : Blt b L) (p : Qd) {k : Nat} (hk : k < 4) (ih : k < 3 → MtH b L p (k + 1)) {A D C E : Nat} (hR : Rg L k A D) (hA : A ≤ C) (hC : C < E) (hE : E ≤ D) (hbE : bdL L k E) (hf : fK L C ≤ k) (hn : ∀ t, C < t → t < E → ¬ fK L t ≤ k)
    (s : WkS) (hp : ∀ j, k < j → j < 4 → s.past j ≤ posL L j C) (hq : ∀ j, j < k → ∀ t, C ≤ t → t < E → ((s.q j : Nat) : Int) = (qAt L t).at j) :
    MtOk L p (k + 1) k (3 - k) C E s (mtG b p k (posL L k C) s) := by
  have hnum := B.numB hk (show C < L.length by have := hR.bn; omega) hf
  have hbl := hR.below hA hC hE (.inr hf) hbE hn
  by_cases hk3 : k = 3
  · subst hk3
    have hE1 : E = C + 1 := by
      refine Decidable.byContradiction fun hne => hn (C + 1) (by omega) (by omega) ?_
      have := B.right.fK_lt (i := C + 1) (by have := hR.bn; omega); omega
    subst hE1
    have e : mtG b p 3 (posL L 3 C) s = ([(posL L 3 C, upF s.q 3 (tM b 3 (posL L 3 C)))], ⟨s.past, upF s.q 3 (tM b 3 (posL L 3 C))⟩) := by unfold mtG; rw [if_pos rfl]
    rw [e]
    have hpC := posL_three B.right C (by have := hR.bn; omega)
    refine ⟨?_, fun j h1 h2 => by omega, fun j h => rfl, fun j h => upF_ne _ (by omega)⟩
    rw [seg_one]
    simp only [agT, Nat.sub_self]
    rw [show ([C].filter fun t => true) = [C] from rfl, List.map_cons, List.map_nil, List.map_cons, List.map_nil]
    rw [hpC] at hnum ⊢
    rw [encT_eq]
    intro j hj
    by_cases hj3 : j = 3
    · subst hj3; rw [upF_at]; exact hnum
    · rw [upF_ne _ hj3]; exact hq j (by omega) C (Nat.le_refl _) (by omega)
  · have e : mtG b p k (posL L k C) s = mtL b p (3 - (k + 1)) (chL b k (posL L k C)) (chH b k (posL L k C)) ⟨s.past, upF s.q k (tM b k (posL L k C))⟩ := by unfold mtG; rw [if_neg hk3]
    rw [e, B.chl (by omega) (by have := hR.bn; omega) (.inr hf), B.chh (by omega) hC (by have := hR.bn; omega) hf hbE hn]
    have h := ih (by omega) C E ⟨s.past, upF s.q k (tM b k (posL L k C))⟩ hbl (fun j h1 h2 => hp j (by omega) h2) (fun j h1 t h2 h3 => by
      by_cases hjk : j = k
      · subst hjk
        show ((upF s.q j (tM b j (posL L j C)) j : Nat) : Int) = _
        rw [upF_at, hnum]
        exact (hbl.eq (show j < j + 1 by omega) h2 h3).symm
      · show ((upF s.q k _ j : Nat) : Int) = _
        rw [upF_ne _ hjk]; exact hq j (by omega) t h2 h3)
    rw [show 4 - (k + 1) = 3 - k by omega] at h
    exact ⟨h.out, h.pu, h.ps, fun j hj => (h.q j (by omega)).trans (upF_ne _ (by omega))⟩
/-- All entries between two places. -/
theorem Blt.mti (B : Blt b L) (p : Qd) {k : Nat} (hk : k < 4) (ih : k < 3 → MtH b L p (k + 1)) {A D : Nat} (hR : Rg L k A D) : ∀ (n : Nat) {C E : Nat}, E - C ≤ n → A ≤ C → C ≤ E → E ≤ D → bdL L k C → bdL L k E →
    ∀ s : WkS, (∀ j, k < j → j < 4 → s.past j ≤ posL L j C) → (∀ j, j < k → ∀ t, C ≤ t → t < E → ((s.q j : Nat) : Int) = (qAt L t).at j) →
    MtOk L p (k + 1) k (3 - k) C E s (mtI (mtG b p k) (posL L k E - posL L k C) (posL L k C) s) := by
  intro n
  induction n with
  | zero =>
    intro C E hn hA hCE hE hbC hbE s hp hq
    obtain rfl : C = E := by omega
    rw [Nat.sub_self]
    exact ⟨by rw [seg_nil (Nat.le_refl _)]; rfl, fun j h1 h2 => hp j (by omega) h2, fun j h => rfl, fun j h => rfl⟩
  | succ n ihn =>
    intro C E hn hA hCE hE hbC hbE s hp hq
    rcases Nat.eq_or_lt_of_le hCE with rfl | hlt
    · rw [Nat.sub_self]
      exact ⟨by rw [seg_nil (Nat.le_refl _)]; rfl, fun j h1 h2 => hp j (by omega) h2, fun j h => rfl, fun j h => rfl⟩
    · have hf := hR.begin (show C < D by omega) hbC
      obtain ⟨F, f1, f2, f3, f4⟩ := hR.next hA (show C < D by omega)
      have hFE : F ≤ E := Decidable.byContradiction fun h => f4 E hlt (by omega) (hbE.resolve_left (by have := hR.bn; omega))
      have h1 := B.mtg p hk ih hR hA f1 f2 f3 hf f4 s hp (fun j hj t h2 h3 => hq j hj t h2 (by omega))
      have hpF : posL L k F = posL L k C + 1 := by rw [posL_flat L k (Nat.le_of_lt f1) f4 f1, posL_yes hf]
      have hFm := posL_mono L k hFE
      have h2 := ihn (C := F) (E := E) (by omega) (by omega) hFE hE f3 hbE (mtG b p k (posL L k C) s).2 (fun j h3 h4 => h1.pu j h3 h4) (fun j h3 t h4 h5 => by rw [h1.q j h3]; exact hq j h3 t (by omega) h5)
      rw [show posL L k E - posL L k C = (posL L k E - posL L k F) + 1 by omega]
      simp only [mtI]
      rw [← hpF]
      refine ⟨?_, h2.pu, fun j h => (h2.ps j h).trans (h1.ps j h), fun j h => (h2.q j h).trans (h1.q j h)⟩
      rw [List.map_append, h1.out, h2.out, seg_app (Nat.le_of_lt f1) hFE, List.filter_append, List.map_append]
theorem agT_step (p q : Qd) {k : Nat} (hk : k < 4) : agT p q (4 - k) = (agN p q k && agT p q (3 - k)) := by
  rw [show 4 - k = (3 - k) + 1 by omega]
  simp only [agT]
  rw [show 3 - (3 - k) = k by omega]
theorem MtOk.fin {p : Qd} {k A D C E : Nat} (hk : k < 4) {s : WkS} {r : List (Nat × (Nat → Nat)) × WkS} (hE : E ≤ D) (h : MtOk L p (k + 1) k (3 - k) C E ⟨upF s.past k (posL L k D), s.q⟩ r)
    (he : ((seg A D).filter fun t => agT p (qAt L t) (4 - k)) = (seg C E).filter fun t => agT p (qAt L t) (3 - k)) : MtOk L p k k (4 - k) A D s r := by
  refine ⟨by rw [he]; exact h.out, fun j h1 h2 => ?_, fun j h1 => (h.ps j (by omega)).trans (upF_ne _ (by omega)), h.q⟩
  by_cases hj : j = k
  · subst hj; rw [h.ps j (by omega)]; exact Nat.le_of_eq (upF_at _ _ _)
  · exact Nat.le_trans (h.pu j (by omega) h2) (posL_mono L j hE)
theorem MtOk.none {p : Qd} {k A D : Nat} (hk : k < 4) {s : WkS} (hp : ∀ j, k < j → j < 4 → s.past j ≤ posL L j D) (hno : ∀ t, A ≤ t → t < D → agN p (qAt L t) k = false) : MtOk L p k k (4 - k) A D s ([], ⟨upF s.past k (posL L k D), s.q⟩) := by
  refine MtOk.fin (C := D) (E := D) hk (Nat.le_refl _) ⟨by rw [seg_nil (Nat.le_refl _)]; rfl, fun j h1 h2 => ?_, fun j h => rfl, fun j h => rfl⟩ ?_
  · show upF s.past k _ j ≤ _
    rw [upF_ne _ (by omega)]; exact hp j (by omega) h2
  · rw [seg_nil (Nat.le_refl D)]
    refine List.filter_eq_nil_iff.2 fun t ht => ?_
    obtain ⟨h1, h2⟩ := seg_mem.1 ht
    rw [agT_step _ _ hk, hno t h1 h2]; simp
theorem Blt.mtl (B : Blt b L) (p : Qd) {k : Nat} (hk : k < 4) (ih : k < 3 → MtH b L p (k + 1)) : MtH b L p k := by
  intro A D s hR hp hq
  have R := B.right
  have hmn : min (posL L k D) (tN b k) = posL L k D := by rw [B.n k hk]; have := posL_mono L k hR.bn; omega
  have hmx : max (posL L k A) (s.past k) = posL L k A := by have := hp k (Nat.le_refl _) hk; omega
  have hpD : ∀ j, k < j → j < 4 → s.past j ≤ posL L j D := fun j h1 h2 => Nat.le_trans (hp j (by omega) h2) (posL_mono L j hR.ab)
  rw [mtL_eq b p k (by omega)]
  unfold mtB
  rw [hmn, hmx]
  rcases Nat.eq_or_lt_of_le hR.ab with rfl | hAD
  · rw [if_pos (Nat.le_refl _)]
    exact ⟨by rw [seg_nil (Nat.le_refl _)]; rfl, fun j h1 h2 => hp j h1 h2, fun j h => rfl, fun j h => rfl⟩
  have hfA := hR.begin hAD hR.ba
  have hlt : posL L k A < posL L k D := by have := posL_yes (L := L) hfA; have := posL_mono L k (show A + 1 ≤ D by omega); omega
  rw [if_neg (by omega)]
  have hs1 : ∀ {C : Nat}, A ≤ C → ∀ j, k < j → j < 4 → (⟨upF s.past k (posL L k D), s.q⟩ : WkS).past j ≤ posL L j C := fun hC j h1 h2 => by
    show upF s.past k _ j ≤ _
    rw [upF_ne _ (by omega)]; exact Nat.le_trans (hp j (by omega) h2) (posL_mono L j hC)
  by_cases hv : 0 ≤ p.at k
  · rw [if_pos hv]
    obtain ⟨C, c1, c2, c3, c4, c5⟩ := hR.cut R (p.at k)
    rw [B.sr hk c1 c2 hR.bn (p.at k) c4 c5]
    rcases Nat.eq_or_lt_of_le c2 with rfl | hCD
    · rw [if_pos (.inl rfl)]
      exact MtOk.none hk hpD fun t h1 h2 => by rw [agN_fix hv, decide_eq_false (by have := c4 t h1 h2; omega)]
    · have hfC := hR.begin hCD c3
      have hnum := B.numB hk (show C < L.length by have := hR.bn; omega) hfC
      have hlC : posL L k C < posL L k D := by have := posL_yes (L := L) hfC; have := posL_mono L k (show C + 1 ≤ D by omega); omega
      by_cases hne : (qAt L C).at k = p.at k
      · rw [if_neg (by rw [hnum]; rintro (h | h); · omega
                       · exact h hne)]
        obtain ⟨E, e1, e2, e3, e4⟩ := hR.next c1 hCD
        have h := B.mtg p hk ih hR c1 e1 e2 e3 hfC e4 ⟨upF s.past k (posL L k D), s.q⟩ (hs1 c1) (fun j h1 t h2 h3 => hq j h1 t (by omega) (by omega))
        have hm : mtI (mtG b p k) 1 (posL L k C) ⟨upF s.past k (posL L k D), s.q⟩ = mtG b p k (posL L k C) ⟨upF s.past k (posL L k D), s.q⟩ := by simp [mtI]
        rw [hm]
        refine MtOk.fin hk e2 h ?_
        rw [seg_app c1 c2, seg_app (Nat.le_of_lt e1) e2, List.filter_append, List.filter_append]
        have n1 : ((seg A C).filter fun t => agT p (qAt L t) (4 - k)) = [] := List.filter_eq_nil_iff.2 fun t ht => by
          obtain ⟨h1, h2⟩ := seg_mem.1 ht
          rw [agT_step _ _ hk, agN_fix hv, decide_eq_false (by have := c4 t h1 h2; omega)]; simp
        have n3 : ((seg E D).filter fun t => agT p (qAt L t) (4 - k)) = [] := List.filter_eq_nil_iff.2 fun t ht => by
          obtain ⟨h1, h2⟩ := seg_mem.1 ht
          have hup := hR.up R c1 e1 (hR.begin (show E < D by omega) e3) h1 h2
          rw [agT_step _ _ hk, agN_fix hv, decide_eq_false (by omega)]; simp
        rw [n1, n3, List.nil_append, List.append_nil]
        refine List.filter_congr fun t ht => ?_
        obtain ⟨h1, h2⟩ := seg_mem.1 ht
        have heq := (hR.below c1 e1 e2 c3 e3 e4).eq (show k < k + 1 by omega) h1 h2
        rw [agT_step _ _ hk, agN_fix hv, decide_eq_true (by rw [heq, hne]), Bool.true_and]
      · rw [if_pos (.inr (by rw [hnum]; exact hne))]
        exact MtOk.none hk hpD fun t h1 h2 => by
          rw [agN_fix hv, decide_eq_false]
          intro he
          by_cases hC : t < C
          · have := c4 t h1 hC; omega
          · have h3 := c5 C (Nat.le_refl _) hCD
            have h4 := hR.mono R c1 (show C ≤ t by omega) h2
            omega
  · rw [if_neg hv]
    have h := B.mti p hk ih hR (D - A) (C := A) (E := D) (Nat.le_refl _) (Nat.le_refl _) hR.ab (Nat.le_refl _) hR.ba hR.bb ⟨upF s.past k (posL L k D), s.q⟩ (hs1 (Nat.le_refl _)) (fun j h1 t h2 h3 => hq j h1 t h2 h3)
    refine MtOk.fin hk (Nat.le_refl _) h ?_
    refine List.filter_congr fun t ht => ?_
    rw [agT_step _ _ hk, agN_free (by omega), Bool.true_and]
theorem Blt.mt (B : Blt b L) (p : Qd) : ∀ (m k : Nat), k + m = 3 → MtH b L p k := by
  intro m
  induction m with
  | zero => intro k hk; exact B.mtl p (by omega) (fun h => by omega)
  | succ m ihm => intro k hk; exact B.mtl p (by omega) (fun h => ihm (k + 1) (by omega))
/-- Match. -/
theorem Blt.match (B : Blt b L) (p : Qd) : (matchT b p).map encT = ((seg 0 L.length).filter fun t => agK p (qAt L t) 4).map (encQ L) := by
  have h := (B.mt p 3 0 rfl) 0 L.length ⟨fun _ => 0, fun _ => 0⟩ (Rg.all L) (fun j _ _ => Nat.zero_le _) (fun j h => by omega)
  rw [← B.n 0 (by omega)] at h
  have h2 := h.out
  simp only [Nat.sub_zero, agT_all] at h2
  exact h2
/-- Each. -/
theorem Blt.ehT (B : Blt b L) : ∀ (f i : Nat), i + f = L.length → (Go.Proofs.Ytgajpekolamjbaa.ehT b f i).map encT = (seg i L.length).map (encQ L)
  | 0, i, h => by rw [seg_nil (by omega)]; rfl
  | f + 1, i, h => by
    obtain ⟨q, h1, h2⟩ := B.get (t := i) (by omega)
    simp only [Go.Proofs.Ytgajpekolamjbaa.ehT, h1, List.map_cons]
    rw [B.ehT f (i + 1) (by omega), seg_app (show i ≤ i + 1 by omega) (show i + 1 ≤ L.length by omega), seg_one, encT_eq h2]
    rfl
theorem Blt.each (B : Blt b L) (fr : Int) : (eachT b fr).map encT = (seg fr.toNat L.length).map (encQ L) := by
  have hN := B.n 3 (by omega)
  rw [posL_three B.right _ (Nat.le_refl _)] at hN
  unfold eachT
  rw [hN]
  by_cases h : fr.toNat ≤ L.length
  · exact B.ehT _ _ (by omega)
  · rw [show L.length - fr.toNat = 0 by omega, seg_nil (by omega)]; rfl
end
end Go.Proofs.Ytgajpekolamjbaa
/- Each and Match of a viewed tree: the functions that they hand back. -/
namespace Go.Proofs.Ytgajpekolamjbaa
open Go.RowKit Go.Shelf Go.Tk
theorem teach_in (n : Nat) (gd : Nat) (fr : Int) (w : World) :
    CallsIn Fence.wide n Try.prog 67 #[.pointer (some ⟨gd, 0, none⟩), .int .i64 fr] w fun e w' => e = .returned (.func (.func 105) #[] #[.pointer (some ⟨w.heap.size + 1, 0, none⟩), .pointer (some ⟨w.heap.size, 0, none⟩)]) ∧
      w' = (w.alloc (.cells #[.pointer (some ⟨gd, 0, none⟩)] 39)).alloc (.cells #[.int .i64 fr] 3) := by
  refine callsIn_of_wp Try.func67 rfl trivial ?_ rfl
  simp only [Try.ntmps67, List.size_toArray, List.length_cons, List.length_nil, Nat.reduceAdd, Nat.reduceSub, Array.replicate_succ, Array.replicate_zero, List.push_toArray, List.append_toArray, List.nil_append, List.cons_append]
  gi_wp2
  go_ret
  exact ⟨by simp, rfl⟩
theorem tmatch_in (n : Nat) (gd : Nat) (q : Qd) (w : World) :
    CallsIn Fence.wide n Try.prog 68 #[.pointer (some ⟨gd, 0, none⟩), .agg (qcs q).toArray] w fun e w' => e = .returned (.func (.func 106) #[] #[.pointer (some ⟨w.heap.size, 0, none⟩), .pointer (some ⟨w.heap.size + 1, 0, none⟩)]) ∧
      w' = (w.alloc (.cells #[.pointer (some ⟨gd, 0, none⟩)] 39)).alloc (.cells (qcs q).toArray 24) := by
  refine callsIn_of_wp Try.func68 rfl trivial ?_ rfl
  simp only [Try.ntmps68, List.size_toArray, List.length_cons, List.length_nil, Nat.reduceAdd, Nat.reduceSub, Array.replicate_succ, Array.replicate_zero, List.push_toArray, List.append_toArray, List.nil_append, List.cons_append]
  gi_wp2
  go_ret
  exact ⟨by simp, rfl⟩
end Go.Proofs.Ytgajpekolamjbaa
/- What Match goes through in any bytes: numbers that rise, quads that agree. Plain. -/
namespace Go.Proofs.Ytgajpekolamjbaa
open Go.RowKit Go.Tk
/-- What a level's walk over any bytes keeps. -/
structure MtWk (b : List UInt8) (p : Qd) (k : Nat) (s : WkS) (r : List (Nat × (Nat → Nat)) × WkS) : Prop where
  up : s.past 3 ≤ r.2.past 3
  top : r.2.past 3 ≤ max (s.past 3) (tN b 3)
  mem : ∀ x ∈ r.1, s.past 3 ≤ x.1 ∧ x.1 < r.2.past 3 ∧ x.1 < tN b 3
  sorted : r.1.Pairwise (fun x y => x.1 < y.1)
  q : ∀ j, j < k → r.2.q j = s.q j
  ag : (∀ j, j < k → 0 ≤ p.at j → ((s.q j : Nat) : Int) = p.at j) → ∀ x ∈ r.1, ∀ j, j < 4 → 0 ≤ p.at j → ((x.2 j : Nat) : Int) = p.at j
theorem stR_le (b : List UInt8) : ∀ m j, stR b m j ≤ tN b 3
  | 0, j => by simp only [stR]; omega
  | m + 1, j => by
    simp only [stR]
    split
    · exact Nat.le_refl _
    · exact stR_le b m _
section
variable {b : List UInt8} {p : Qd}
theorem MtWk.none (k : Nat) (s s' : WkS) (h : s'.past 3 = s.past 3) (hq : ∀ j, j < k → s'.q j = s.q j) : MtWk b p k s ([], s') :=
  ⟨by rw [h]; exact Nat.le_refl _, by rw [h]; omega, fun x hx => (by cases hx), List.Pairwise.nil, hq, fun _ x hx => (by cases hx)⟩
theorem MtWk.app {k : Nat} {s : WkS} {r t : List (Nat × (Nat → Nat)) × WkS} (h1 : MtWk b p k s r) (h2 : MtWk b p k r.2 t) : MtWk b p k s (r.1 ++ t.1, t.2) := by
  refine ⟨Nat.le_trans h1.up h2.up, ?_, ?_, ?_, fun j hj => (h2.q j hj).trans (h1.q j hj), ?_⟩
  · have := h1.top; have := h2.top; show t.2.past 3 ≤ _; omega
  · intro x hx
    rcases List.mem_append.1 hx with hx | hx
    · have := h1.mem x hx; have := h2.up; exact ⟨by omega, by show _ < t.2.past 3; omega, by omega⟩
    · have := h2.mem x hx; have := h1.up; exact ⟨by omega, by show _ < t.2.past 3; omega, by omega⟩
  · refine List.pairwise_append.2 ⟨h1.sorted, h2.sorted, fun x hx y hy => ?_⟩
    have := h1.mem x hx; have := h2.mem y hy; omega
  · intro hs x hx
    rcases List.mem_append.1 hx with hx | hx
    · exact h1.ag hs x hx
    · exact h2.ag (fun j hj h0 => by rw [h1.q j hj]; exact hs j hj h0) x hx
/-- One entry after another. -/
theorem wk_mti {k : Nat} (g : Nat → WkS → List (Nat × (Nat → Nat)) × WkS) : ∀ (c i : Nat) (s : WkS), (∀ i', i ≤ i' → i' < i + c → ∀ s', MtWk b p k s' (g i' s')) → MtWk b p k s (mtI g c i s)
  | 0, i, s, _ => MtWk.none k s s rfl (fun _ _ => rfl)
  | c + 1, i, s, h => (h i (Nat.le_refl _) (by omega) s).app (wk_mti g c (i + 1) (g i s).2 (fun i' h1 h2 => h i' (by omega) (by omega)))
/-- The last level: places one behind another. -/
theorem wk_last : ∀ (c i : Nat) (s : WkS), (mtI (mtG b p 3) c i s).2.past = s.past ∧ (∀ j, j < 3 → (mtI (mtG b p 3) c i s).2.q j = s.q j) ∧ (mtI (mtG b p 3) c i s).1.Pairwise (fun x y => x.1 < y.1) ∧
    ∀ x ∈ (mtI (mtG b p 3) c i s).1, i ≤ x.1 ∧ x.1 < i + c ∧ x.2 3 = tM b 3 x.1 ∧ ∀ j, j < 3 → x.2 j = s.q j
  | 0, i, s => ⟨rfl, fun _ _ => rfl, List.Pairwise.nil, fun x hx => (by cases hx)⟩
  | c + 1, i, s => by
    have hg : mtG b p 3 i s = ([(i, upF s.q 3 (tM b 3 i))], ⟨s.past, upF s.q 3 (tM b 3 i)⟩) := by unfold mtG; rw [if_pos rfl]
    obtain ⟨h1, h2, h3, h4⟩ := wk_last c (i + 1) ⟨s.past, upF s.q 3 (tM b 3 i)⟩
    simp only [mtI, hg]
    refine ⟨h1, fun j hj => (h2 j hj).trans (upF_ne _ (by omega)), ?_, ?_⟩
    · refine List.pairwise_append.2 ⟨List.pairwise_singleton _ _, h3, fun x hx y hy => ?_⟩
      obtain rfl := List.mem_singleton.1 hx
      have := (h4 y hy).1
      show i < y.1
      omega
    · intro x hx
      rcases List.mem_append.1 hx with hx | hx
      · obtain rfl := List.mem_singleton.1 hx
        exact ⟨Nat.le_refl _, by show i < _; omega, upF_at s.q 3 (tM b 3 i), fun j hj => upF_ne _ (by omega)⟩
      · obtain ⟨g1, g2, g3, g4⟩ := h4 x hx
        exact ⟨by omega, by omega, g3, fun j hj => (g4 j hj).trans (upF_ne _ (by omega))⟩
theorem wk_level : ∀ (m k : Nat), k + m = 3 → ∀ (lo hi : Nat) (s : WkS), MtWk b p k s (mtL b p (3 - k) lo hi s)
  | 0, k, hk, lo, hi, s => by
    obtain rfl : k = 3 := by omega
    rw [mtL_eq b p 3 (by omega)]
    unfold mtB
    obtain ⟨h, hh⟩ : ∃ h, h = min hi (tN b 3) := ⟨_, rfl⟩
    obtain ⟨l, hl⟩ : ∃ l, l = max lo (s.past 3) := ⟨_, rfl⟩
    rw [← hh, ← hl]
    by_cases h0 : h ≤ l
    · rw [if_pos h0]; exact MtWk.none 3 s s rfl (fun _ _ => rfl)
    rw [if_neg h0]
    have fin : ∀ c i, l ≤ i → i + c ≤ h → (0 ≤ p.at 3 → ∀ i', i ≤ i' → i' < i + c → ((tM b 3 i' : Nat) : Int) = p.at 3) → MtWk b p 3 s (mtI (mtG b p 3) c i ⟨upF s.past 3 h, s.q⟩) := by
      intro c i h1 h2 h3
      obtain ⟨g1, g2, g3, g4⟩ := wk_last (b := b) (p := p) c i ⟨upF s.past 3 h, s.q⟩
      have e3 : (mtI (mtG b p 3) c i ⟨upF s.past 3 h, s.q⟩).2.past 3 = h := by rw [g1]; exact upF_at s.past 3 h
      refine ⟨by rw [e3]; omega, by rw [e3]; omega, fun x hx => ?_, g3, g2, fun hs x hx j hj hp => ?_⟩
      · have := g4 x hx; rw [e3]; exact ⟨by omega, by omega, by omega⟩
      · obtain ⟨f1, f2, f3, f4⟩ := g4 x hx
        by_cases hj3 : j = 3
        · subst hj3; rw [f3]; exact h3 hp x.1 f1 f2
        · rw [f4 j (by omega)]; exact hs j (by omega) hp
    have none' : MtWk b p 3 s ([], ⟨upF s.past 3 h, s.q⟩) := fin 0 l (Nat.le_refl _) (by omega) (fun _ i' h1 h2 => by omega)
    by_cases hv : 0 ≤ p.at 3
    · rw [if_pos hv]
      have hs := srT_le b 3 l h (p.at 3) (by omega)
      by_cases hc : srT b 3 l h (p.at 3) = h ∨ ((tM b 3 (srT b 3 l h (p.at 3)) : Nat) : Int) ≠ p.at 3
      · rw [if_pos hc]; exact none'
      · rw [if_neg hc]
        refine fin 1 _ hs.1 (by omega) (fun _ i' h1 h2 => ?_)
        obtain rfl : i' = srT b 3 l h (p.at 3) := by omega
        exact Classical.byContradiction fun hne => hc (.inr hne)
    · rw [if_neg hv]
      exact fin _ _ (Nat.le_refl _) (by omega) (fun h => absurd h hv)
  | m + 1, k, hk, lo, hi, s => by
    rw [mtL_eq b p k (by omega)]
    unfold mtB
    obtain ⟨h, hh⟩ : ∃ h, h = min hi (tN b k) := ⟨_, rfl⟩
    obtain ⟨l, hl⟩ : ∃ l, l = max lo (s.past k) := ⟨_, rfl⟩
    rw [← hh, ← hl]
    have e3 : (⟨upF s.past k h, s.q⟩ : WkS).past 3 = s.past 3 := upF_ne _ (by omega)
    have lift : ∀ {r : List (Nat × (Nat → Nat)) × WkS}, MtWk b p k ⟨upF s.past k h, s.q⟩ r → MtWk b p k s r := fun {r} w => ⟨by have := w.up; rw [e3] at this; exact this, by have := w.top; rw [e3] at this; exact this, fun x hx => by have := w.mem x hx; rw [e3] at this; exact this, w.sorted, w.q, w.ag⟩
    have ent : ∀ i s', (0 ≤ p.at k → ((tM b k i : Nat) : Int) = p.at k) → MtWk b p k s' (mtG b p k i s') := by
      intro i s' hi
      have e : mtG b p k i s' = mtL b p (3 - (k + 1)) (chL b k i) (chH b k i) ⟨s'.past, upF s'.q k (tM b k i)⟩ := by unfold mtG; rw [if_neg (by omega)]
      rw [e]
      have w := wk_level m (k + 1) (by omega) (chL b k i) (chH b k i) ⟨s'.past, upF s'.q k (tM b k i)⟩
      refine ⟨w.up, w.top, w.mem, w.sorted, fun j hj => (w.q j (by omega)).trans (upF_ne _ (by omega)), fun hs x hx => w.ag (fun j hj hp => ?_) x hx⟩
      by_cases hjk : j = k
      · subst hjk; show ((upF s'.q j (tM b j i) j : Nat) : Int) = _; rw [upF_at]; exact hi hp
      · show ((upF s'.q k (tM b k i) j : Nat) : Int) = _; rw [upF_ne _ hjk]; exact hs j (by omega) hp
    by_cases h0 : h ≤ l
    · rw [if_pos h0]; exact MtWk.none k s s rfl (fun _ _ => rfl)
    rw [if_neg h0]
    by_cases hv : 0 ≤ p.at k
    · rw [if_pos hv]
      by_cases hc : srT b k l h (p.at k) = h ∨ ((tM b k (srT b k l h (p.at k)) : Nat) : Int) ≠ p.at k
      · rw [if_pos hc]; exact MtWk.none k s _ e3 (fun _ _ => rfl)
      · rw [if_neg hc]
        refine lift (wk_mti _ 1 _ _ (fun i' h1 h2 s' => ent i' s' (fun _ => ?_)))
        obtain rfl : i' = srT b k l h (p.at k) := by omega
        exact Classical.byContradiction fun hne => hc (.inr hne)
    · rw [if_neg hv]
      exact lift (wk_mti _ _ _ _ (fun i' h1 h2 s' => ent i' s' (fun h => absurd h hv)))
theorem match_any : MtWk b p 0 ⟨fun _ => 0, fun _ => 0⟩ (mtL b p 3 0 (tN b 0) ⟨fun _ => 0, fun _ => 0⟩) := wk_level 3 0 rfl 0 (tN b 0) _
theorem len_sorted : ∀ (l : List (Nat × (Nat → Nat))) (lo N : Nat), (∀ x ∈ l, lo ≤ x.1 ∧ x.1 < N) → l.Pairwise (fun x y => x.1 < y.1) → l.length ≤ N - lo
  | [], _, _, _, _ => Nat.zero_le _
  | x :: t, lo, N, h, hs => by
    have h1 := h x (by simp)
    obtain ⟨g1, g2⟩ := List.pairwise_cons.1 hs
    have := len_sorted t (x.1 + 1) N (fun y hy => ⟨g1 y hy, (h y (by simp [hy])).2⟩) g2
    simp only [List.length_cons]; omega
theorem match_len (b : List UInt8) (p : Qd) : (matchT b p).length ≤ tN b 3 := by
  have w := match_any (b := b) (p := p)
  have := len_sorted (matchT b p) 0 (tN b 3) (fun x hx => ⟨Nat.zero_le _, (w.mem x hx).2.2⟩) w.sorted
  omega
end
end Go.Proofs.Ytgajpekolamjbaa
