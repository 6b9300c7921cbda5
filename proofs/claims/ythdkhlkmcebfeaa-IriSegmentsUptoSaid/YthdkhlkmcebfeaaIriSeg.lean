/- iri.Segments: what the iterator goes through; dots. -/
import Derived.Test.YthdkhlkmcebfeaaIriWay
import Derived.RangeFuncNested
import Derived.RangeFuncBound
import Derived.RangeFuncCalls
import Derived.RangeFuncLeaves
import Derived.RangeFuncBox
import Derived.Shelf.Abstract
import Derived.Shelf.RegionOpen
import Derived.WalkKit
import Derived.OwnWalkIn
import Derived.TacticsInMore
import Derived.LoopNIn
import Derived.LoopIn
import Derived.Maps.AppendAt
set_option linter.unusedVariables false
set_option linter.unusedSimpArgs false
namespace Go.Tk
open Go Go.RowKit
theorem segs_cut : ∀ l : List UInt8, segs l = l.take (toS l) :: (if toS l < l.length then segs (l.drop (toS l + 1)) else [])
  | [] => rfl
  | b :: l => by
    by_cases h : b = 47
    · subst h
      rw [segs_slash]
      simp [toS]
    · have ih := segs_cut l
      have e : toS (b :: l) = toS l + 1 := by simp [toS, h]
      rw [segs_other h ih, e]
      simp
def segEnc (x : List UInt8) : Array Value := #[.string ⟨x.toArray⟩]
/-- What is still to come. -/
def segR (more : Bool) (l : List UInt8) : List (List UInt8) := if more then segs l else []
theorem segR_step (l : List UInt8) : segR true l = l.take (toS l) :: segR (decide (toS l < l.length)) (l.drop (toS l + 1)) := by
  unfold segR
  rw [if_pos rfl, segs_cut l]
  by_cases h : toS l < l.length
  · rw [if_pos h, decide_eq_true h]; rfl
  · rw [if_neg h, decide_eq_false h]; rfl
end Go.Tk
namespace Go.Proofs.Ythdkhlkmcebfeaa
open Go.RowKit Go.Shelf Go.Tk
attribute [local go_sem] Oper.semAt_some
set_option maxRecDepth 100000 in
set_option maxHeartbeats 2000000 in
theorem segs1_in (n : Nat) (hn : 1 ≤ n) (l Bn : Nat) (s : ByteArray) (hs : s.size ≤ 1000000000000000) (J Jx : List (List UInt8) → World → Prop)
    (hY : ∀ pre x W, J pre W → pre.length < (segs s.data.toList).length → YieldAt Fence.wide (n - 1) Try.prog l (segEnc x) W fun e W' =>
      (e = .returned (.bool true) ∧ J (pre ++ [x]) W' ∧ W'.heap[Bn]? = W.heap[Bn]?) ∨ (e = .returned (.bool false) ∧ Jx (pre ++ [x]) W'))
    (hJd : ∀ pre W k, J pre W → J pre (W.drewN k))
    (W : World) (hBn : W.cell? ⟨Bn, 0, none⟩ = some (.string s)) (h0 : J [] W) :
    CallsIn Fence.wide n Try.prog 39 #[.func (.yield l) #[] #[], .pointer (some ⟨Bn, 0, none⟩)] W fun e W' => (∃ v, e = .returned v) ∧
      ((∃ ys, ys = segs s.data.toList ∧ J ys W') ∨ (∃ pre, pre <+: segs s.data.toList ∧ Jx pre W')) := by
  refine callsIn_of_wp Try.func39 rfl trivial ?_ rfl
  simp only [Try.ntmps39, List.size_toArray, List.length_cons, List.length_nil, Nat.reduceAdd, Nat.reduceSub, Array.replicate_succ, Array.replicate_zero, List.push_toArray, List.append_toArray, List.nil_append, List.cons_append]
  gi_wp2
  gi_loopw [3, 4, 5] (fun rv mv _ wr => ∃ (pre : List (List UInt8)) (r : ByteArray) (more : Bool), rv = .string r ∧ mv = .bool more ∧ r.size ≤ s.size ∧ segs s.data.toList = pre ++ segR more r.data.toList ∧ J pre wr)
    (fun rv mv _ _ => match rv, mv with | .string r, .bool true => r.size + 1 | _, _ => 0)
  case atStart => exact ⟨[], s, true, rfl, rfl, Nat.le_refl _, by simp [segR], h0⟩
  case round =>
    obtain ⟨pre, r, more, rfl, rfl, hr, hx, hJ⟩ := hrel
    have HX := Lib.hid hx
    clear hx
    cases more with
    | true =>
      have hcut := fun w => scut_calls r w (by omega)
      obtain ⟨rl, hrl⟩ : ∃ rl, rl = r.data.toList := ⟨_, rfl⟩
      rw [← hrl] at hcut
      have hst := segR_step rl
      obtain ⟨x, hx⟩ : ∃ x, x = rl.take (toS rl) := ⟨_, rfl⟩
      obtain ⟨y, hy⟩ : ∃ y, y = rl.drop (toS rl + 1) := ⟨_, rfl⟩
      obtain ⟨m, hm⟩ : ∃ m, m = decide (toS rl < rl.length) := ⟨_, rfl⟩
      rw [← hx, ← hy, ← hm] at hst hcut
      have hyl : (⟨y.toArray⟩ : ByteArray).size ≤ r.size := by rw [Lib.size_eq, Lib.size_eq, ← hrl, hy]; simp
      have hyl2 : m = true → (⟨y.toArray⟩ : ByteArray).size + 1 ≤ r.size := fun h => by
        rw [hm] at h
        have := of_decide_eq_true h
        rw [Lib.size_eq, Lib.size_eq, ← hrl, hy]
        simp
        omega
      have hlen : pre.length < (segs s.data.toList).length := by rw [HX.out, ← hrl, hst]; simp
      have hfin : segs s.data.toList = (pre ++ [x]) ++ segR m y := by rw [HX.out, ← hrl, hst, List.append_assoc]; rfl
      obtain ⟨yB, hyB⟩ : ∃ yB : ByteArray, yB = ⟨y.toArray⟩ := ⟨_, rfl⟩
      have hyd : yB.data.toList = y := by rw [hyB]
      rw [← hyB] at hcut hyl hyl2
      have henc : segEnc x = #[.string ⟨x.toArray⟩] := rfl
      have hYx := fun k => hY pre x (wr.drewN k) (hJd _ _ k hJ) hlen
      rw [henc] at hYx
      have HYX := Lib.hid hYx
      have HCUT := Lib.hid hcut
      have HF := Lib.hid hfin
      have HYD := Lib.hid hyd
      have HYL2 := Lib.hid hyl2
      clear hcut hrl hst hx hy hm hfin hyB hyd hlen henc hYx hyl2
      gi_wp2_with (refine ⟨trivial, ?_⟩; gi_at_call 40; refine (callsIn_wide.2 (HCUT.out _)).mono ?_; rintro e w' ⟨rfl, k1, rfl⟩; obtain ⟨fn, tmps, assign, body, hy, hR⟩ := HYX.out k1)
      refine hR.mono ?_
      rintro e W3 (⟨rfl, hJ3, hk3⟩ | ⟨rfl, hJx3⟩)
      · gi_wp2
        go_roundw
        case rel => exact ⟨pre ++ [x], yB, m, rfl, rfl, Nat.le_trans hyl hr, by rw [HYD.out]; exact HF.out, hJ3⟩
        case measure =>
          cases m with
          | true => have := HYL2.out rfl; simp; omega
          | false => simp
      · gi_wp2
        refine bodyPost_ret (results_none rfl _ _ _) rfl ?_
        exact ⟨⟨_, rfl⟩, .inr ⟨pre ++ [x], ⟨_, HF.out.symm⟩, hJx3⟩⟩
    | false =>
      have hend : segs s.data.toList = pre := by rw [HX.out]; simp [segR]
      have HE := Lib.hid hend
      clear hend
      gi_wp2
      go_end0
      exact ⟨⟨_, rfl⟩, .inl ⟨pre, HE.out.symm, hJ⟩⟩
end Go.Proofs.Ythdkhlkmcebfeaa
