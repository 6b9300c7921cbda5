/- utf.Runes: what the iterator goes through. -/
import Derived.Test.YthloijpnbljpeaaUtfC
import Derived.RangeFuncNested
import Derived.RangeFuncBound
import Derived.RangeFuncCalls
import Derived.RangeFuncLeaves
import Derived.RangeFuncBox
import Derived.Shelf.Abstract
import Derived.Shelf.RegionOpen
import Derived.WalkKit
import Derived.OwnWalkIn
import Derived.TacticsInMore
import Derived.LoopNIn
import Derived.LoopIn
import Derived.Maps.AppendAt
set_option linter.unusedVariables false
set_option linter.unusedSimpArgs false
namespace Go.Tk
open Go Go.RowKit
/-- A scalar and its place. -/
abbrev SeenP := { x : Nat × Int // x.1 ≤ 9223372036854775807 ∧ 0 ≤ x.2 ∧ x.2 ≤ 1114111 }
def seenN : Nat → List UInt8 → Nat → List (Nat × Int)
  | 0, _, _ => []
  | f + 1, l, k => if l = [] then [] else if (dec l).2 = 0 then [] else (k, (dec l).1) :: seenN f (l.drop (dec l).2) (k + (dec l).2)
theorem seenN_fuel : ∀ (f g : Nat) (l : List UInt8) (x : Nat), l.length ≤ f → l.length ≤ g → seenN f l x = seenN g l x
  | 0, g, l, x, h, _ => by
    obtain rfl : l = [] := List.eq_nil_of_length_eq_zero (by omega)
    cases g <;> simp [seenN]
  | f + 1, 0, l, x, _, h => by
    obtain rfl : l = [] := List.eq_nil_of_length_eq_zero (by omega)
    simp [seenN]
  | f + 1, g + 1, l, x, h1, h2 => by
    simp only [seenN]
    split
    · rfl
    split
    · rfl
    · rename_i h0
      rw [seenN_fuel f g _ _ (by simp; omega) (by simp; omega)]
/-- What Runes goes through, of a text that begins at place k. -/
def seenL (l : List UInt8) (k : Nat) : List (Nat × Int) := seenN l.length l k
theorem seenL_nil (k : Nat) : seenL [] k = [] := rfl
theorem seenL_bad {l : List UInt8} (k : Nat) (h : (dec l).2 = 0) : seenL l k = [] := by
  unfold seenL
  cases l with
  | nil => rfl
  | cons b t => simp only [List.length_cons, seenN]; rw [if_neg (by simp), if_pos h]
theorem seenL_step {l : List UInt8} (k : Nat) (h : (dec l).2 ≠ 0) : seenL l k = (k, (dec l).1) :: seenL (l.drop (dec l).2) (k + (dec l).2) := by
  cases l with
  | nil => simp [dec] at h
  | cons b t =>
    unfold seenL
    simp only [List.length_cons, seenN]
    rw [if_neg (by simp), if_neg h]
    congr 1
    exact seenN_fuel _ _ _ _ (by simp; omega) (Nat.le_refl _)
theorem dec_fst_bd (l : List UInt8) : 0 ≤ (dec l).1 ∧ (dec l).1 ≤ 1114111 := by
  by_cases h : (dec l).2 = 0
  · rw [dec_zero h]; simp
  · have := (dec_yes (l := l) (r := (dec l).1) (n := (dec l).2) rfl h).1
    have := (scalarB_iff _).1 this
    omega
def SeenP.enc (x : SeenP) : Array Value := #[.int .i64 (x.1.1 : Nat), .int .i32 x.1.2]
end Go.Tk
namespace Go.Proofs.Ythloijpnbljpeaa
open Go.RowKit Go.Shelf Go.Tk
attribute [local go_sem] Oper.semAt_some
set_option maxRecDepth 100000 in
set_option maxHeartbeats 2000000 in
theorem runes1_in (n : Nat) (hn : 1 ≤ n) (l Bn : Nat) (s : ByteArray) (hs : s.size ≤ 140737488351232) (J Jx : List SeenP → World → Prop)
    (hY : ∀ pre x W, J pre W → pre.length < (seenL s.data.toList 0).length → YieldAt Fence.wide (n - 1) Try.prog l (SeenP.enc x) W fun e W' =>
      (e = .returned (.bool true) ∧ J (pre ++ [x]) W' ∧ W'.heap[Bn]? = W.heap[Bn]?) ∨ (e = .returned (.bool false) ∧ Jx (pre ++ [x]) W'))
    (W : World) (hBn : W.cell? ⟨Bn, 0, none⟩ = some (.string s)) (h0 : J [] W) :
    CallsIn Fence.wide n Try.prog 26 #[.func (.yield l) #[] #[], .pointer (some ⟨Bn, 0, none⟩)] W fun e W' => (∃ v, e = .returned v) ∧
      ((∃ ys, ys.map (·.1) = seenL s.data.toList 0 ∧ J ys W') ∨ (∃ pre, pre.map (·.1) <+: seenL s.data.toList 0 ∧ Jx pre W')) := by
  refine callsIn_of_wp Try.func26 rfl trivial ?_ rfl
  simp only [Try.ntmps26, List.size_toArray, List.length_cons, List.length_nil, Nat.reduceAdd, Nat.reduceSub, Array.replicate_succ, Array.replicate_zero, List.push_toArray, List.append_toArray, List.nil_append, List.cons_append]
  gi_wp2
  gi_loopw [3, 4, 5] (fun at_ _ _ wr => ∃ (pre : List SeenP) (k : Nat), at_ = .int .i64 (k : Nat) ∧ k ≤ s.size ∧ wr.cell? ⟨Bn, 0, none⟩ = some (.string s) ∧ seenL s.data.toList 0 = pre.map (·.1) ++ seenL (s.data.toList.drop k) k ∧ J pre wr)
    (fun at_ _ _ _ => s.size - (intOf at_).toNat)
  case atStart => exact ⟨[], 0, rfl, Nat.zero_le _, hBn, by simp, h0⟩
  case round =>
    obtain ⟨pre, k, rfl, hk, hc, hx, hJ⟩ := hrel
    have HX := Lib.hid hx
    clear hx
    by_cases hks : k < s.size
    · obtain ⟨r, m, hd⟩ : ∃ r m, dec (s.data.toList.drop k) = (r, m) := ⟨_, _, rfl⟩
      have hnx := fun w => next_in s k w (by omega) hks
      rw [hd] at hnx
      have hle := dec_le (s.data.toList.drop k)
      have hbd := dec_fst_bd (s.data.toList.drop k)
      rw [hd, List.length_drop, ← Lib.size_eq] at hle
      rw [hd] at hbd
      simp only at hle hbd
      obtain ⟨hle1, hle2⟩ := hle
      obtain ⟨hbd1, hbd2⟩ := hbd
      have HNX := Lib.hid hnx
      have HD := Lib.hid hd
      clear hnx hd
      by_cases hm : m = 0
      · have e0 : ((m : Int) == 0) = true := by simp [hm]
        have hend : seenL (s.data.toList.drop k) k = [] := seenL_bad k (by rw [HD.out]; exact hm)
        have HE := Lib.hid hend
        clear hm hend
        gi_wp2_with (refine ⟨trivial, ?_⟩; gi_at_call 11; refine (callsIn_wide.2 (HNX.out _)).mono ?_; rintro e w' ⟨rfl, rfl⟩)
        refine ⟨fun _ h => (by cases h), ?_⟩
        gi_wp2
        refine bodyPost_ret (results_none rfl _ _ _) rfl ?_
        exact ⟨⟨_, rfl⟩, .inl ⟨pre, by rw [HX.out, HE.out]; simp, hJ⟩⟩
      · have e0 : ((m : Int) == 0) = false := by simp [hm]
        have hst : seenL (s.data.toList.drop k) k = (k, r) :: seenL (s.data.toList.drop (k + m)) (k + m) := by
          rw [seenL_step k (by rw [HD.out]; exact hm), HD.out, List.drop_drop]
        have hp : k ≤ 9223372036854775807 ∧ 0 ≤ r ∧ r ≤ 1114111 := ⟨by omega, hbd1, hbd2⟩
        obtain ⟨x, hxv⟩ : ∃ x : SeenP, x.1 = (k, r) := ⟨⟨(k, r), hp⟩, rfl⟩
        have hlen : pre.length < (seenL s.data.toList 0).length := by rw [HX.out, hst]; simp
        obtain ⟨fn, tmps, assign, body, hy, hR⟩ := hY pre x wr hJ hlen
        have henc : x.enc = #[.int .i64 (k : Nat), .int .i32 r] := by unfold SeenP.enc; rw [hxv]
        rw [henc] at hy
        have hfin : seenL s.data.toList 0 = (pre ++ [x]).map (·.1) ++ seenL (s.data.toList.drop (k + m)) (k + m) := by rw [HX.out, hst, List.map_append, List.map_cons, List.map_nil, hxv, List.append_assoc]; rfl
        have HF := Lib.hid hfin
        have HC := Lib.hid hc
        clear hst hxv hlen henc hfin hp
        gi_wp2_with (refine ⟨trivial, ?_⟩; gi_at_call 11; refine (callsIn_wide.2 (HNX.out _)).mono ?_; rintro e w' ⟨rfl, rfl⟩)
        refine hR.mono ?_
        rintro e W3 (⟨rfl, hJ3, hk3⟩ | ⟨rfl, hJx3⟩)
        · have hc3 : W3.cell? ⟨Bn, 0, none⟩ = some (.string s) := (World.cell?_of_block (a := ⟨Bn, 0, none⟩) hk3).trans HC.out
          gi_wp2
          go_roundw
          case rel => exact ⟨pre ++ [x], k + m, by go_num, by omega, hc3, HF.out, hJ3⟩
          case measure => simp [intOf]; omega
        · gi_wp2
          refine bodyPost_ret (results_none rfl _ _ _) rfl ?_
          exact ⟨⟨_, rfl⟩, .inr ⟨pre ++ [x], ⟨_, HF.out.symm⟩, hJx3⟩⟩
    · have hend : seenL (s.data.toList.drop k) k = [] := by rw [List.drop_of_length_le (by rw [← Lib.size_eq]; omega)]; rfl
      have HE := Lib.hid hend
      clear hend
      gi_wp2
      go_end0
      exact ⟨⟨_, rfl⟩, .inl ⟨pre, by rw [HX.out, HE.out]; simp, hJ⟩⟩
end Go.Proofs.Ythloijpnbljpeaa
