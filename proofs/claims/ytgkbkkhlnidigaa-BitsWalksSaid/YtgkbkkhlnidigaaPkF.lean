/- All of packed numbers, by their places: each place is one of those there are. -/
import Derived.Test.YtgkbkkhlnidigaaPkI
set_option linter.unusedVariables false
set_option linter.unusedSimpArgs false
namespace Go.Proofs.Ytgkbkkhlnidigaa
open Go.RowKit Go.Shelf Go.Tk
attribute [local go_sem] Oper.semAt_some
/-- What stood in w0 is as it was. -/
def SmQ (w0 A B : World) : Prop := ∀ j, j < w0.heap.size → B.heap[j]? = A.heap[j]?
def encF (zs : List Int) (d m : Nat) (x : Fin m) : Array Value := encP zs d x.val
set_option maxRecDepth 100000 in
set_option maxHeartbeats 2000000 in
theorem pallN_in (n : Nat) (hn : 1 ≤ n) (l : Nat) (w0 : World) (a : Option Addr) (L c m d : Nat) (zs : List Int) (hS : SlI .u8 w0 a L c zs) (hu : U8 zs) (hd : d ≤ 64) (hm : m ≤ 2147483647) (hL : m * d ≤ 8 * L) (J Jx : Nat → World → Prop)
    (hY : ∀ i W, J i W → i < m → YieldAt Fence.wide (n - 1) Try.prog l (encP zs d i) W fun e W' =>
      (e = .returned (.bool true) ∧ J (i + 1) W' ∧ SmQ w0 W W') ∨ (e = .returned (.bool false) ∧ Jx (i + 1) W'))
    (hJd : ∀ i W W' , J i W → W.grownBy W' none → J i W') (g : Nat) (hgq : g < w0.heap.size)
    (W : World) (hsz : w0.heap.size ≤ W.heap.size) (hsame : ∀ j, j < w0.heap.size → W.heap[j]? = w0.heap[j]?) (hg : W.heap[g]? = some (.cells (pkCs a L c m d) 24 (0, 0))) (h0 : J 0 W) :
    CallsIn Fence.wide n Try.prog 47 #[.func (.yield l) #[] #[], .pointer (some ⟨g, 0, none⟩)] W fun e W' => (∃ v, e = .returned v) ∧
      (J m W' ∨ (∃ i, i ≤ m ∧ Jx i W')) := by
  have c1 : W.cell? ⟨g, 1, none⟩ = some (.int .i64 (m : Nat)) := (cell_of_row W g 1 _ _ _ hg).trans rfl
  have HG := Lib.hid hg
  have HS := Lib.hid hsame
  have HZ := Lib.hid hS
  have HI := Lib.hid Try.sizePk
  clear hg hsame hS
  refine callsIn_of_wp Try.func47 rfl trivial ?_ rfl
  simp only [Try.ntmps47, List.size_toArray, List.length_cons, List.length_nil, Nat.reduceAdd, Nat.reduceSub, Array.replicate_succ, Array.replicate_zero, List.push_toArray, List.append_toArray, List.nil_append, List.cons_append]
  gi_wp2
  gi_loopw [6] (fun iv wr => ∃ (i : Nat), iv = .int .i64 (i : Nat) ∧ i ≤ m ∧ J i wr ∧ w0.heap.size ≤ wr.heap.size ∧ (∀ j, j < w0.heap.size → wr.heap[j]? = w0.heap[j]?) ∧ wr.heap[g]? = some (.cells (pkCs a L c m d) 24 (0, 0)))
    (fun iv _ => m - (intOf iv).toNat)
  case atStart => exact ⟨0, rfl, Nat.zero_le _, h0, hsz, HS.out, HG.out⟩
  case round =>
    obtain ⟨i, rfl, hi, hJ, hsr, hsm, hgr⟩ := hrel
    have hgl := lt_of_block hgr
    by_cases hlt : i < m
    · have hsl := HZ.out.sameB hsm
      have hpg := fun k : Nat => (callsIn_wide (n := k)).2 (pget_calls wr a L c m i d zs hsl hu hlt hd hm hL)
      have HPG := Lib.hid hpg
      have HSM := Lib.hid hsm
      have HGR := Lib.hid hgr
      have q0 : wr.cell? ⟨g, 0, none⟩ = some (.slice a L c) := (cell_of_row wr g 0 _ _ _ hgr).trans rfl
      have q1 : wr.cell? ⟨g, 1, none⟩ = some (.int .i64 (m : Nat)) := (cell_of_row wr g 1 _ _ _ hgr).trans rfl
      have q2 : wr.cell? ⟨g, 2, none⟩ = some (.int .i64 (d : Nat)) := (cell_of_row wr g 2 _ _ _ hgr).trans rfl
      clear hpg hsm hgr hsl c1
      gi_wp2_with (refine ⟨trivial, ?_⟩; gi_at_call 43; refine (HPG.out _).mono ?_; rintro e w2 ⟨rfl, hb2⟩; obtain ⟨fn, tmps, assign, body, hy, hR⟩ := hY i w2 (hJd _ _ _ hJ ⟨hb2.os, hb2.tape, hb2.output, hb2.size, fun k hk _ => hb2.block k hk⟩) hlt; unfold encP at hy)
      refine hR.mono ?_
      rintro e W3 (⟨rfl, hJ3, hk3⟩ | ⟨rfl, hJx3⟩)
      · have hs2 : ∀ j, j < w0.heap.size → W3.heap[j]? = w0.heap[j]? := fun j hj => (hk3 j hj).trans ((hb2.block j (by omega)).trans (HSM.out j hj))
        have hg3 := (hk3 g hgq).trans ((hb2.block g hgl).trans HGR.out)
        have HJ3 := Lib.hid hJ3
        have HS3 := Lib.hid hs2
        have HG3 := Lib.hid hg3
        have HZ3 : Hid (w0.heap.size ≤ W3.heap.size) := Lib.hid (size_of_same hs2)
        clear hJ3 hs2 hg3 hk3 hJ q0 q1 q2
        gi_wp2
        go_roundw
        case rel => exact ⟨i + 1, by go_num, by omega, HJ3.out, HZ3.out, HS3.out, HG3.out⟩
        case measure => simp [intOf]; omega
      · gi_wp2
        refine bodyPost_ret (results_none rfl _ _ _) rfl ?_
        exact ⟨⟨_, rfl⟩, .inr ⟨_, by omega, hJx3⟩⟩
    · obtain rfl : i = m := by omega
      gi_wp2
      go_end0
      exact ⟨⟨_, rfl⟩, .inl hJ⟩
theorem take_fin {m i : Nat} (h : i < m) : (List.finRange m).take (i + 1) = (List.finRange m).take i ++ [⟨i, h⟩] := by
  rw [List.take_succ_eq_append_getElem (by simpa using h)]
  simp
theorem pallF_in (n : Nat) (hn : 1 ≤ n) (w0 : World) (a : Option Addr) (L c m d : Nat) (zs : List Int) (hS : SlI .u8 w0 a L c zs) (hu : U8 zs) (hd : d ≤ 64) (hm : m ≤ 2147483647) (hL : m * d ≤ 8 * L) (g : Nat) (hgq : g < w0.heap.size)
    (W : World) (hsz : w0.heap.size ≤ W.heap.size) (hsame : ∀ j, j < w0.heap.size → W.heap[j]? = w0.heap[j]?) (hg : W.heap[g]? = some (.cells (pkCs a L c m d) 24 (0, 0))) :
    SeqStopsK Fence.wide n Try.prog 47 #[.pointer (some ⟨g, 0, none⟩)] (encF zs d m) (SmQ w0) (fun ys => ys = List.finRange m) (fun pre => pre <+: List.finRange m) m W := by
  intro l J Jx W' hW' hA _ hY h0
  refine (pallN_in n hn l w0 a L c m d zs hS hu hd hm hL (fun i W => J ((List.finRange m).take i) W) (fun i W => Jx ((List.finRange m).take i) W) ?_ (fun i X X' hJ hg => hA _ X X' none hJ hg (fun r e => by cases e)) g hgq W' (Nat.le_trans hsz hW'.size) (fun j hj => (hW'.block _ (by omega)).trans (hsame j hj)) ((hW'.block _ (by omega)).trans hg) (by simpa using h0)).mono ?_
  · intro i X hJ hi
    have := hY ((List.finRange m).take i) ⟨i, hi⟩ X hJ (by simp; omega)
    simp only [← take_fin hi] at this
    exact this
  · rintro e X ⟨hv, hJ | ⟨i, hi, hJ⟩⟩
    · exact ⟨hv, .inl ⟨_, rfl, by rwa [List.take_of_length_le (by simp)] at hJ⟩⟩
    · exact ⟨hv, .inr ⟨_, List.take_prefix _ _, hJ⟩⟩
end Go.Proofs.Ytgkbkkhlnidigaa
