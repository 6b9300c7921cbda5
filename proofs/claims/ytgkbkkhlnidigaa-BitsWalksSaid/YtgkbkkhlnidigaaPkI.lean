/- All of packed numbers: the iterator. -/
import Derived.Test.YtgkbkkhlnidigaaPkQ
import Derived.RangeFuncNested
import Derived.RangeFuncBound
import Derived.RangeFuncCalls
import Derived.RangeFuncLeaves
import Derived.RangeFuncBox
import Derived.Shelf.Abstract
import Derived.Shelf.RegionOpen
import Derived.WalkKit
import Derived.OwnWalkIn
import Derived.TacticsInMore
import Derived.LoopNIn
import Derived.LoopIn
import Derived.Maps.AppendAt
import Derived.Sort.QuietTacIn
set_option linter.unusedVariables false
set_option linter.unusedSimpArgs false
namespace Go.Tk
open Go Go.RowKit
theorem SlI.sameB {k : IntKind} {w w' : World} {a : Option Addr} {L c : Nat} {zs : List Int} (h : SlI k w a L c zs) (hs : ∀ j, j < w.heap.size → w'.heap[j]? = w.heap[j]?) : SlI k w' a L c zs :=
  ⟨h.len, h.le, h.max, fun i hi => by
    obtain ⟨b, p, rfl, hc⟩ := h.cell i hi
    exact ⟨b, p, rfl, (World.cell?_of_block (a := ⟨b, p + i, none⟩) (hs b (block_lt_of_cell hc))).trans hc⟩⟩
theorem size_of_same {w0 W : World} (h : ∀ j, j < w0.heap.size → W.heap[j]? = w0.heap[j]?) : w0.heap.size ≤ W.heap.size := by
  by_cases h0 : w0.heap.size = 0
  · omega
  · have := h (w0.heap.size - 1) (by omega)
    rw [show w0.heap[w0.heap.size - 1]? = some (w0.heap[w0.heap.size - 1]'(by omega)) from Array.getElem?_eq_getElem (by omega)] at this
    have := (Array.getElem?_eq_some_iff.1 this).1
    omega
end Go.Tk
namespace Go.Proofs.Ytgkbkkhlnidigaa
open Go.RowKit Go.Shelf Go.Tk
attribute [local go_sem] Oper.semAt_some
def pkCs (a : Option Addr) (L c m d : Nat) : Array Value := #[.slice a L c, .int .i64 (m : Nat), .int .i64 (d : Nat)]
def encP (zs : List Int) (d : Nat) (x : Nat) : Array Value := #[.int .i64 (x : Nat), .int .u64 (numT zs d x d : Nat)]
/-- What stood below a bound stands, and one box. -/
def KpP (w0 : World) (g : Nat) (A B : World) : Prop := ∀ j, (j < w0.heap.size ∨ j = g) → B.heap[j]? = A.heap[j]?
set_option maxRecDepth 100000 in
set_option maxHeartbeats 2000000 in
theorem pall1_in (n : Nat) (hn : 1 ≤ n) (l : Nat) (w0 : World) (a : Option Addr) (L c m d : Nat) (zs : List Int) (hS : SlI .u8 w0 a L c zs) (hu : U8 zs) (hd : d ≤ 64) (hm : m ≤ 2147483647) (hL : m * d ≤ 8 * L) (g : Nat) (J Jx : List Nat → World → Prop)
    (hY : ∀ pre x W, J pre W → pre.length < m → YieldAt Fence.wide (n - 1) Try.prog l (encP zs d x) W fun e W' =>
      (e = .returned (.bool true) ∧ J (pre ++ [x]) W' ∧ KpP w0 g W W') ∨ (e = .returned (.bool false) ∧ Jx (pre ++ [x]) W'))
    (hJd : ∀ pre W W' , J pre W → W.grownBy W' none → J pre W')
    (W : World) (hsz : w0.heap.size ≤ W.heap.size) (hsame : ∀ j, j < w0.heap.size → W.heap[j]? = w0.heap[j]?) (hg : W.heap[g]? = some (.cells (pkCs a L c m d) 24 (0, 0))) (h0 : J [] W) :
    CallsIn Fence.wide n Try.prog 47 #[.func (.yield l) #[] #[], .pointer (some ⟨g, 0, none⟩)] W fun e W' => (∃ v, e = .returned v) ∧
      ((∃ ys, ys = List.range m ∧ J ys W') ∨ (∃ pre, pre <+: List.range m ∧ Jx pre W')) := by
  have c1 : W.cell? ⟨g, 1, none⟩ = some (.int .i64 (m : Nat)) := (cell_of_row W g 1 _ _ _ hg).trans rfl
  have HG := Lib.hid hg
  have HS := Lib.hid hsame
  have HZ := Lib.hid hS
  have HI := Lib.hid Try.sizePk
  clear hg hsame hS
  refine callsIn_of_wp Try.func47 rfl trivial ?_ rfl
  simp only [Try.ntmps47, List.size_toArray, List.length_cons, List.length_nil, Nat.reduceAdd, Nat.reduceSub, Array.replicate_succ, Array.replicate_zero, List.push_toArray, List.append_toArray, List.nil_append, List.cons_append]
  gi_wp2
  gi_loopw [6] (fun iv wr => ∃ (i : Nat), iv = .int .i64 (i : Nat) ∧ i ≤ m ∧ J (List.range i) wr ∧ w0.heap.size ≤ wr.heap.size ∧ (∀ j, j < w0.heap.size → wr.heap[j]? = w0.heap[j]?) ∧ wr.heap[g]? = some (.cells (pkCs a L c m d) 24 (0, 0)))
    (fun iv _ => m - (intOf iv).toNat)
  case atStart => exact ⟨0, rfl, Nat.zero_le _, h0, hsz, HS.out, HG.out⟩
  case round =>
    obtain ⟨i, rfl, hi, hJ, hsr, hsm, hgr⟩ := hrel
    have hgl := lt_of_block hgr
    by_cases hlt : i < m
    · have hsl := HZ.out.sameB hsm
      have hpg := fun k : Nat => (callsIn_wide (n := k)).2 (pget_calls wr a L c m i d zs hsl hu hlt hd hm hL)
      have HPG := Lib.hid hpg
      have HSM := Lib.hid hsm
      have HGR := Lib.hid hgr
      have q0 : wr.cell? ⟨g, 0, none⟩ = some (.slice a L c) := (cell_of_row wr g 0 _ _ _ hgr).trans rfl
      have q1 : wr.cell? ⟨g, 1, none⟩ = some (.int .i64 (m : Nat)) := (cell_of_row wr g 1 _ _ _ hgr).trans rfl
      have q2 : wr.cell? ⟨g, 2, none⟩ = some (.int .i64 (d : Nat)) := (cell_of_row wr g 2 _ _ _ hgr).trans rfl
      clear hpg hsm hgr hsl c1
      have hrg : (List.range i).length < m := by rw [List.length_range]; exact hlt
      gi_wp2_with (refine ⟨trivial, ?_⟩; gi_at_call 43; refine (HPG.out _).mono ?_; rintro e w2 ⟨rfl, hb2⟩; obtain ⟨fn, tmps, assign, body, hy, hR⟩ := hY (List.range i) i w2 (hJd _ _ _ hJ ⟨hb2.os, hb2.tape, hb2.output, hb2.size, fun k hk _ => hb2.block k hk⟩) hrg; unfold encP at hy)
      refine hR.mono ?_
      rintro e W3 (⟨rfl, hJ3, hk3⟩ | ⟨rfl, hJx3⟩)
      · have hs2 : ∀ j, j < w0.heap.size → W3.heap[j]? = w0.heap[j]? := fun j hj => (hk3 j (.inl hj)).trans ((hb2.block j (by omega)).trans (HSM.out j hj))
        have hg3 := (hk3 g (.inr rfl)).trans ((hb2.block g hgl).trans HGR.out)
        rw [← List.range_succ] at hJ3
        have HJ3 := Lib.hid hJ3
        have HS3 := Lib.hid hs2
        have HG3 := Lib.hid hg3
        have HZ3 : Hid (w0.heap.size ≤ W3.heap.size) := Lib.hid (size_of_same hs2)
        clear hJ3 hs2 hg3 hk3 hJ q0 q1 q2
        gi_wp2
        go_roundw
        case rel => exact ⟨i + 1, by go_num, by omega, HJ3.out, HZ3.out, HS3.out, HG3.out⟩
        case measure => simp [intOf]; omega
      · rw [← List.range_succ] at hJx3
        have hpre : List.range (i + 1) <+: List.range m := by
          have := List.take_prefix (i + 1) (List.range m)
          rwa [List.take_range, Nat.min_eq_left (by omega)] at this
        have HP := Lib.hid hpre
        clear hpre
        gi_wp2
        refine bodyPost_ret (results_none rfl _ _ _) rfl ?_
        exact ⟨⟨_, rfl⟩, .inr ⟨_, HP.out, hJx3⟩⟩
    · obtain rfl : i = m := by omega
      gi_wp2
      go_end0
      exact ⟨⟨_, rfl⟩, .inl ⟨_, rfl, hJ⟩⟩
theorem pall_in (n : Nat) (w : World) (a : Option Addr) (L c m d : Nat) :
    CallsIn Fence.wide n Try.prog 13 #[.agg #[.slice a L c, .int .i64 (m : Nat), .int .i64 (d : Nat)]] w fun e w' => e = .returned (.func (.func 47) #[] #[.pointer (some ⟨w.heap.size, 0, none⟩)]) ∧ w' = w.alloc (.cells (pkCs a L c m d) 24) := by
  refine callsIn_of_wp Try.func13 rfl trivial ?_ rfl
  simp only [Try.ntmps13, List.size_toArray, List.length_cons, List.length_nil, Nat.reduceAdd, Nat.reduceSub, Array.replicate_succ, Array.replicate_zero, List.push_toArray, List.append_toArray, List.nil_append, List.cons_append]
  gi_wp2
  go_ret
  exact ⟨rfl, rfl⟩
end Go.Proofs.Ytgkbkkhlnidigaa
