/- TvX TvY TvZ, laid as one. -/
import Derived.Test.YtgajpekolamjbaaTvH
import Derived.RangeFuncNested
import Derived.RangeFuncBound
import Derived.RangeFuncCalls
import Derived.RangeFuncLeaves
import Derived.RangeFuncBox
import Derived.Shelf.Abstract
import Derived.Shelf.RegionOpen
import Derived.WalkKit
import Derived.OwnWalkIn
import Derived.LoopNIn
import Derived.LoopIn
import Derived.Test.YtgajpekolamjbaaRfI
set_option linter.unusedVariables false
set_option linter.unusedSimpArgs false
/- Each of a viewed tree of any bytes: the iterator. -/
namespace Go.Proofs.Ytgajpekolamjbaa
open Go.RowKit Go.Shelf Go.Tk
/-- The quads from entry i on. -/
def ehT (b : List UInt8) : Nat → Nat → List (Nat × (Nat → Nat))
  | 0, _ => []
  | f + 1, i => match getT b (i : Nat) with
    | none => ehT b f (i + 1)
    | some q => (i, q) :: ehT b f (i + 1)
def eachT (b : List UInt8) (fr : Int) : List (Nat × (Nat → Nat)) := ehT b (tN b 3 - fr.toNat) fr.toNat
def encT (x : Nat × (Nat → Nat)) : Array Value := #[.int .i64 (x.1 : Nat), .agg #[.int .i64 (x.2 0 : Nat), .int .i64 (x.2 1 : Nat), .int .i64 (x.2 2 : Nat), .int .i64 (x.2 3 : Nat)]]
/-- What stood in w0, and two boxes, are as they were. -/
def KpT (w0 : World) (p1 p2 : Nat) (A B : World) : Prop := ∀ j, (j < w0.heap.size ∨ j = p1 ∨ j = p2) → B.heap[j]? = A.heap[j]?
theorem SlI_sameT {k : IntKind} {w w' : World} {a : Option Addr} {n c : Nat} {zs : List Int} (h : SlI k w a n c zs) (hs : ∀ j, j < w.heap.size → w'.heap[j]? = w.heap[j]?) : SlI k w' a n c zs :=
  ⟨h.len, h.le, h.max, fun i hi => by
    obtain ⟨b, p, rfl, hc⟩ := h.cell i hi
    exact ⟨b, p, rfl, (World.cell?_of_block (a := ⟨b, p + i, none⟩) (hs b (block_lt_of_cell hc))).trans hc⟩⟩
theorem sizeT_of_same {w0 w : World} (h : ∀ j, j < w0.heap.size → w.heap[j]? = w0.heap[j]?) : w0.heap.size ≤ w.heap.size := by
  by_cases h0 : w0.heap.size = 0
  · omega
  · have := h (w0.heap.size - 1) (by omega)
    have h2 : w0.heap.size - 1 < w0.heap.size := by omega
    rw [Array.getElem?_eq_getElem h2] at this
    have := lt_of_block this
    omega
theorem TreeM.same {w w' : World} {gd : Nat} {b : List UInt8} {a : Option Addr} {cap : Nat} {vp : Nat → Option Addr} (h : TreeM w gd b a cap vp) (hs : ∀ j, j < w.heap.size → w'.heap[j]? = w.heap[j]?) : TreeM w' gd b a cap vp :=
  ⟨(hs gd h.row.lt).trans h.row, SlI_sameT h.sl hs, h.nil, fun k hk => ⟨fun hv => by
    obtain ⟨gv, h1, h2⟩ := (h.vec k hk).1 hv
    exact ⟨gv, h1, (hs gv (lt_of_block h2.row)).trans h2.row, SlI_sameT h2.sl hs, h2.fit, h2.mn, h2.nN⟩, (h.vec k hk).2⟩, h.ok⟩
theorem get_lt {b : List UInt8} {i : Nat} {q : Nat → Nat} (h : getT b (i : Nat) = some q) : i < tN b 3 := by
  unfold getT at h
  split at h
  · cases h
  · omega
set_option maxRecDepth 100000 in
set_option maxHeartbeats 2000000 in
theorem teach1_in (n : Nat) (hn : 1 ≤ n) (l : Nat) (w0 : World) (gd : Nat) (b : List UInt8) (a : Option Addr) (cap : Nat) (vp : Nat → Option Addr) (hT : TreeM w0 gd b a cap vp) (p1 p2 : Nat) (fr : Int)
    (hfr : -9223372036854775808 ≤ fr ∧ fr ≤ 9223372036854775807) (L : List (Nat × (Nat → Nat))) (hL : L = eachT b fr) (J Jx : Nat → World → Prop)
    (hY : ∀ i W (h : i < L.length), J i W → YieldAt Fence.wide (n - 1) Try.prog l (encT L[i]) W fun e W' =>
      (e = .returned (.bool true) ∧ J (i + 1) W' ∧ KpT w0 p1 p2 W W') ∨ (e = .returned (.bool false) ∧ Jx (i + 1) W'))
    (hJd : ∀ i W W' , J i W → W.grownBy W' none → J i W')
    (W : World) (hp1 : W.heap[p1]? = some (.cells #[.int .i64 fr] 3 (0, 0))) (hp2 : W.heap[p2]? = some (.cells #[.pointer (some ⟨gd, 0, none⟩)] 39 (0, 0))) (hsame : ∀ j, j < w0.heap.size → W.heap[j]? = w0.heap[j]?) (h0 : J 0 W) :
    CallsIn Fence.wide n Try.prog 105 #[.func (.yield l) #[] #[], .pointer (some ⟨p1, 0, none⟩), .pointer (some ⟨p2, 0, none⟩)] W fun e W' => (∃ v, e = .returned v) ∧
      (J L.length W' ∨ (∃ i, i ≤ L.length ∧ Jx i W')) := by
  have b1 := cell_of_one hp1
  have b2 := cell_of_one hp2
  have HT := Lib.hid hT
  have HP1 := Lib.hid hp1
  have HP2 := Lib.hid hp2
  have HS := Lib.hid hsame
  have HL := Lib.hid hL
  obtain ⟨f0, hf0⟩ : ∃ f0 : Nat, f0 = fr.toNat := ⟨_, rfl⟩
  have hmx : max fr 0 = (f0 : Nat) := by omega
  have HF0 := Lib.hid hf0
  clear hT hp1 hp2 hsame hL hf0
  refine callsIn_of_wp Try.func105 rfl trivial ?_ rfl
  simp only [Try.ntmps105, List.size_toArray, List.length_cons, List.length_nil, Nat.reduceAdd, Nat.reduceSub, Array.replicate_succ, Array.replicate_zero, List.push_toArray, List.append_toArray, List.nil_append, List.cons_append]
  gi_wp2
  obtain ⟨N3, hN3⟩ : ∃ N3, N3 = tN b 3 := ⟨_, rfl⟩
  have hN3l : N3 ≤ 1048576 := by rw [hN3]; exact HT.out.nk (by omega)
  have HN3 := Lib.hid hN3
  clear hN3
  gi_loopw [4] (fun iv wr => ∃ (j I : Nat), iv = .int .i64 (I : Nat) ∧ f0 ≤ I ∧ j ≤ L.length ∧ L.drop j = ehT b (N3 - I) I ∧ J j wr ∧ (∀ j, j < w0.heap.size → wr.heap[j]? = w0.heap[j]?) ∧ wr.heap[p2]? = some (.cells #[.pointer (some ⟨gd, 0, none⟩)] 39 (0, 0))) (fun iv _ => N3 - (intOf iv).toNat)
  case atStart => exact ⟨0, f0, by go_num, Nat.le_refl _, Nat.zero_le _, by rw [HL.out, HN3.out, HF0.out]; rfl, h0, HS.out, HP2.out⟩
  case round =>
    obtain ⟨j, I, rfl, hI, hjL, hrest, hJ, hsm, hr2⟩ := hrel
    rename World => wr
    have q2 := cell_of_one hr2
    have lr2 := lt_of_block hr2
    have hTr := HT.out.same hsm
    have hlen := (callsIn_wide (n := n - 1)).2 (tlen_calls hTr)
    rw [← HN3.out] at hlen
    have HLEN := Lib.hid hlen
    have HR2 := Lib.hid hr2
    have HSM := Lib.hid hsm
    have HTR := Lib.hid hTr
    have HI := Lib.hid hI
    have HREST := Lib.hid hrest
    clear hlen hr2 hsm hTr hI hrest b1 b2
    by_cases hin : I < N3
    rotate_left
    · have hend : j = L.length := by
        have h1 := HREST.out
        have h2 : ehT b (N3 - I) I = [] := by rw [show N3 - I = 0 by omega]; rfl
        rw [h2] at h1
        have := List.drop_eq_nil_iff.1 h1
        omega
      have HEND := Lib.hid hend
      have d1 : decide ((I : Int) < (N3 : Int)) = false := decide_eq_false (by omega)
      have d2 : decide (I < N3) = false := decide_eq_false hin
      clear hend
      gi_wp2_with (refine ⟨trivial, ?_⟩; gi_at_call 22; refine HLEN.out.mono ?_; rintro e w1 ⟨rfl, rfl⟩)
      go_end0
      exact ⟨⟨_, rfl⟩, .inl (by rw [← HEND.out]; exact hJ)⟩
    · have d1 : decide ((I : Int) < (N3 : Int)) = true := decide_eq_true (by omega)
      have d2 : decide (I < N3) = true := decide_eq_true hin
      have hget := (callsIn_wide (n := n - 1)).2 (tget_calls wr gd b a cap vp HTR.out (I : Nat) (by omega))
      have hst : ehT b (N3 - I) I = match getT b (I : Nat) with | none => ehT b (N3 - (I + 1)) (I + 1) | some q => (I, q) :: ehT b (N3 - (I + 1)) (I + 1) := by
        rw [show N3 - I = (N3 - (I + 1)) + 1 by omega]
        rfl
      cases hg : getT b (I : Nat) with
      | none =>
        rw [hg] at hst hget
        have HGET := Lib.hid hget
        have HST := Lib.hid hst
        have hnext : L.drop j = ehT b (N3 - (I + 1)) (I + 1) := by rw [HREST.out, hst]
        have HNEXT := Lib.hid hnext
        clear hnext
        have hget2 : CallsIn Fence.wide (n - 1) Try.prog 23 #[.pointer (some ⟨gd, 0, none⟩), .int .i64 (I : Nat)] wr fun e w' => Below wr.heap.size wr w' ∧ e = .returned (.tuple #[.agg #[.int .i64 0, .int .i64 0, .int .i64 0, .int .i64 0], .bool false]) := hget
        have HGET2 := Lib.hid hget2
        clear hg hst hget hget2
        gi_wp2_with (first
          | (refine ⟨trivial, ?_⟩; gi_at_call 22; refine HLEN.out.mono ?_; rintro e w1 ⟨rfl, rfl⟩)
          | (refine ⟨trivial, ?_⟩; gi_at_call 23; refine HGET2.out.mono ?_; rintro e w2 ⟨hb2, rfl⟩; (have HB2 := Lib.hid hb2); clear hb2))
        refine ⟨(fun f h => by cases h), ?_⟩
        have hb3 := HB2.out.alloc HB2.out.size (.cells #[.int .i64 0, .int .i64 0, .int .i64 0, .int .i64 0] 24)
        have HJ3 := Lib.hid (hJd _ _ _ hJ ⟨hb3.os, hb3.tape, hb3.output, hb3.size, fun k hk _ => hb3.block k hk⟩)
        have HS3 := Lib.hid (fun j (hj : j < w0.heap.size) => (hb3.block j (by have := sizeT_of_same HSM.out; omega)).trans (HSM.out j hj))
        have HX2 := Lib.hid ((hb3.block _ lr2).trans HR2.out)
        clear hb3 hJ q2
        gi_wp2
        exact ⟨⟨j, I + 1, by go_num, by have := HI.out; omega, hjL, HNEXT.out, HJ3.out, HS3.out, HX2.out⟩, by simp [intOf]; omega⟩
      | some q =>
        rw [hg] at hst hget
        have hget2 : CallsIn Fence.wide (n - 1) Try.prog 23 #[.pointer (some ⟨gd, 0, none⟩), .int .i64 (I : Nat)] wr fun e w' => Below wr.heap.size wr w' ∧ e = .returned (.tuple #[.agg #[.int .i64 (q 0 : Nat), .int .i64 (q 1 : Nat), .int .i64 (q 2 : Nat), .int .i64 (q 3 : Nat)], .bool true]) := hget
        have hdr := HREST.out
        rw [hst] at hdr
        have hjl : j < L.length := by
          rcases Nat.lt_or_ge j L.length with h | h
          · exact h
          · rw [List.drop_eq_nil_of_le h] at hdr; cases hdr
        rw [List.drop_eq_getElem_cons hjl] at hdr
        have henc : encT L[j] = #[.int .i64 (I : Nat), .agg #[.int .i64 (q 0 : Nat), .int .i64 (q 1 : Nat), .int .i64 (q 2 : Nat), .int .i64 (q 3 : Nat)]] := by rw [(List.cons.inj hdr).1]; rfl
        have hnext : L.drop (j + 1) = ehT b (N3 - (I + 1)) (I + 1) := (List.cons.inj hdr).2
        have HGET := Lib.hid hget2
        have HENC := Lib.hid henc
        have HNEXT := Lib.hid hnext
        clear hg hst hget hget2 hdr henc hnext
        gi_wp2_with (first
          | (refine ⟨trivial, ?_⟩; gi_at_call 22; refine HLEN.out.mono ?_; rintro e w1 ⟨rfl, rfl⟩)
          | (refine ⟨trivial, ?_⟩; gi_at_call 23; refine HGET.out.mono ?_; rintro e w2 ⟨hb2, rfl⟩; (have hb3 := hb2.alloc hb2.size (.cells #[.int .i64 (q 0 : Nat), .int .i64 (q 1 : Nat), .int .i64 (q 2 : Nat), .int .i64 (q 3 : Nat)] 24)); obtain ⟨fn, tmps, assign, body, hy, hR⟩ := hY j (w2.alloc (.cells #[.int .i64 (q 0 : Nat), .int .i64 (q 1 : Nat), .int .i64 (q 2 : Nat), .int .i64 (q 3 : Nat)] 24)) hjl (hJd _ _ _ hJ ⟨hb3.os, hb3.tape, hb3.output, hb3.size, fun k hk _ => hb3.block k hk⟩); rw [HENC.out] at hy; (have HB3 := Lib.hid hb3); clear hb2 hb3))
        refine hR.mono ?_
        rintro e W3 (⟨rfl, hJ3, hk3⟩ | ⟨rfl, hJx3⟩)
        · have hs3 : ∀ j, j < w0.heap.size → W3.heap[j]? = w0.heap[j]? := fun j hj => (hk3 j (.inl hj)).trans ((HB3.out.block j (by have := sizeT_of_same HSM.out; omega)).trans (HSM.out j hj))
          have HX2 : Hid (W3.heap[p2]? = some (.cells #[.pointer (some ⟨gd, 0, none⟩)] 39 (0, 0))) := Lib.hid ((hk3 p2 (.inr (.inr rfl))).trans ((HB3.out.block _ lr2).trans HR2.out))
          have HJ3 := Lib.hid hJ3
          have HS3 := Lib.hid hs3
          clear hJ3 hs3 hk3 hJ q2 hR
          gi_wp2
          go_roundw
          case rel => exact ⟨j + 1, I + 1, by go_num, by have := HI.out; omega, by omega, HNEXT.out, HJ3.out, HS3.out, HX2.out⟩
          case measure => simp [intOf]; omega
        · gi_wp2
          refine bodyPost_ret (results_none rfl _ _ _) rfl ?_
          exact ⟨⟨_, rfl⟩, .inr ⟨_, by omega, hJx3⟩⟩
end Go.Proofs.Ytgajpekolamjbaa
/- Each of a viewed tree: the rounds by their numbers. -/
namespace Go.Proofs.Ytgajpekolamjbaa
open Go.RowKit Go.Shelf Go.Tk
theorem teachI_in (n : Nat) (hn : 1 ≤ n) (w0 : World) (gd : Nat) (b : List UInt8) (a : Option Addr) (cap : Nat) (vp : Nat → Option Addr) (hT : TreeM w0 gd b a cap vp) (p1 p2 : Nat) (fr : Int)
    (hfr : -9223372036854775808 ≤ fr ∧ fr ≤ 9223372036854775807) (L : List (Nat × (Nat → Nat))) (hL : L = eachT b fr)
    (W : World) (hp1 : W.heap[p1]? = some (.cells #[.int .i64 fr] 3 (0, 0))) (hp2 : W.heap[p2]? = some (.cells #[.pointer (some ⟨gd, 0, none⟩)] 39 (0, 0))) (hsz : w0.heap.size ≤ W.heap.size) (hsame : ∀ j, j < w0.heap.size → W.heap[j]? = w0.heap[j]?) :
    SeqI Fence.wide n Try.prog 105 #[.pointer (some ⟨p1, 0, none⟩), .pointer (some ⟨p2, 0, none⟩)] (L.map encT) (fun _ => False) (fun _ => KpT w0 p1 p2) W := by
  intro l J Jx W' hW' hA _ hY h0
  rw [List.length_map]
  refine teach1_in n hn l w0 gd b a cap vp hT p1 p2 fr hfr L hL J Jx ?_ (fun i X X' hJ hg => hA _ X X' none hJ hg (fun r e => by cases e)) W' ((hW'.block _ (lt_of_block hp1)).trans hp1) ((hW'.block _ (lt_of_block hp2)).trans hp2) (fun j hj => (hW'.block _ (by omega)).trans (hsame j hj)) h0
  intro i X hi hJ
  have := hY i X (by rw [List.length_map]; exact hi) hJ
  rw [List.getElem_map] at this
  obtain ⟨fn, tmps, assign, body, h1, h2⟩ := this
  exact ⟨fn, tmps, assign, body, h1, h2.mono fun e X' h => h.imp id fun h => ⟨h.1, h.2.1⟩⟩
end Go.Proofs.Ytgajpekolamjbaa
/- Each and Match of a viewed tree: the functions that they hand back. -/
namespace Go.Proofs.Ytgajpekolamjbaa
open Go.RowKit Go.Shelf Go.Tk
theorem teach_in (n : Nat) (gd : Nat) (fr : Int) (w : World) :
    CallsIn Fence.wide n Try.prog 67 #[.pointer (some ⟨gd, 0, none⟩), .int .i64 fr] w fun e w' => e = .returned (.func (.func 105) #[] #[.pointer (some ⟨w.heap.size + 1, 0, none⟩), .pointer (some ⟨w.heap.size, 0, none⟩)]) ∧
      w' = (w.alloc (.cells #[.pointer (some ⟨gd, 0, none⟩)] 39)).alloc (.cells #[.int .i64 fr] 3) := by
  refine callsIn_of_wp Try.func67 rfl trivial ?_ rfl
  simp only [Try.ntmps67, List.size_toArray, List.length_cons, List.length_nil, Nat.reduceAdd, Nat.reduceSub, Array.replicate_succ, Array.replicate_zero, List.push_toArray, List.append_toArray, List.nil_append, List.cons_append]
  gi_wp2
  go_ret
  exact ⟨by simp, rfl⟩
theorem tmatch_in (n : Nat) (gd : Nat) (q : Qd) (w : World) :
    CallsIn Fence.wide n Try.prog 68 #[.pointer (some ⟨gd, 0, none⟩), .agg (qcs q).toArray] w fun e w' => e = .returned (.func (.func 106) #[] #[.pointer (some ⟨w.heap.size, 0, none⟩), .pointer (some ⟨w.heap.size + 1, 0, none⟩)]) ∧
      w' = (w.alloc (.cells #[.pointer (some ⟨gd, 0, none⟩)] 39)).alloc (.cells (qcs q).toArray 24) := by
  refine callsIn_of_wp Try.func68 rfl trivial ?_ rfl
  simp only [Try.ntmps68, List.size_toArray, List.length_cons, List.length_nil, Nat.reduceAdd, Nat.reduceSub, Array.replicate_succ, Array.replicate_zero, List.push_toArray, List.append_toArray, List.nil_append, List.cons_append]
  gi_wp2
  go_ret
  exact ⟨by simp, rfl⟩
end Go.Proofs.Ytgajpekolamjbaa
