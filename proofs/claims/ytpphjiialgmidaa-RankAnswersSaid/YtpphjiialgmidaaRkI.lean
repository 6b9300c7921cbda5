/- Each: the iterator. -/
import Derived.Test.YtpphjiialgmidaaRkE
import Derived.RangeFuncNested
import Derived.RangeFuncBound
import Derived.RangeFuncCalls
import Derived.RangeFuncLeaves
import Derived.RangeFuncBox
import Derived.Shelf.Abstract
import Derived.Shelf.RegionOpen
import Derived.WalkKit
import Derived.OwnWalkIn
import Derived.TacticsInMore
import Derived.LoopNIn
import Derived.LoopIn
import Derived.Maps.AppendAt
import Derived.Sort.QuietTacIn
set_option linter.unusedVariables false
set_option linter.unusedSimpArgs false
namespace Go.Proofs.Ytpphjiialgmidaa
open Go.RowKit Go.Shelf Go.Tk
attribute [local go_sem] Oper.semAt_some
/-- What stands below a bound stands. -/
theorem VecAt.same {w w' : World} {gv : Nat} {a : Option Addr} {c : Nat} {bs : List UInt8} {n m : Nat} (h : VecAt w gv a c bs n m) (hs : ∀ j, j < w.heap.size → w'.heap[j]? = w.heap[j]?) : VecAt w' gv a c bs n m :=
  ⟨(hs gv (lt_of_block h.row)).trans h.row, ⟨h.sl.len, h.sl.le, h.sl.max, fun i hi => by
    obtain ⟨b, p, rfl, hc⟩ := h.sl.cell i hi
    exact ⟨b, p, rfl, (World.cell?_of_block (a := ⟨b, p + i, none⟩) (hs b (block_lt_of_cell hc))).trans hc⟩⟩, h.fit, h.mn, h.nN⟩
def KpV (w0 : World) (p1 p2 : Nat) (A B : World) : Prop := ∀ j, (j < w0.heap.size ∨ j = p1 ∨ j = p2) → B.heap[j]? = A.heap[j]?
def encI (x : Nat) : Array Value := #[.int .i64 (x : Nat)]
set_option maxRecDepth 100000 in
set_option maxHeartbeats 2000000 in
theorem each1_in (n : Nat) (hn : 1 ≤ n) (l : Nat) (w0 : World) (gv : Nat) (a : Option Addr) (c : Nat) (bs : List UInt8) (N m : Nat) (hV : VecAt w0 gv a c bs N m) (p1 p2 : Nat) (from_ : Int) (hfr : -9223372036854775808 ≤ from_ ∧ from_ ≤ 9223372036854775807)
    (L : List Nat) (hL : L = eachL (btB (datB bs)) N from_.toNat) (J Jx : List Nat → World → Prop)
    (hY : ∀ pre x W, J pre W → pre.length < L.length → YieldAt Fence.wide (n - 1) Try.prog l (encI x) W fun e W' =>
      (e = .returned (.bool true) ∧ J (pre ++ [x]) W' ∧ KpV w0 p1 p2 W W') ∨ (e = .returned (.bool false) ∧ Jx (pre ++ [x]) W'))
    (hJd : ∀ pre W k, J pre W → J pre (W.drewN k))
    (W : World) (hsame : ∀ j, j < w0.heap.size → W.heap[j]? = w0.heap[j]?) (hp1 : W.heap[p1]? = some (.cells #[.int .i64 from_] 3 (0, 0))) (hp2 : W.heap[p2]? = some (.cells #[.pointer (some ⟨gv, 0, none⟩)] 37 (0, 0))) (h0 : J [] W) :
    CallsIn Fence.wide n Try.prog 65 #[.func (.yield l) #[] #[], .pointer (some ⟨p1, 0, none⟩), .pointer (some ⟨p2, 0, none⟩)] W fun e W' => (∃ v, e = .returned v) ∧
      ((∃ ys, ys = L ∧ J ys W') ∨ (∃ pre, pre <+: L ∧ Jx pre W')) := by
  have c1 := cell_of_one hp1
  have hmx : max from_ 0 = (from_.toNat : Int) := by omega
  have HMX := Lib.hid hmx
  have HP1 := Lib.hid hp1
  have HP2 := Lib.hid hp2
  have HS := Lib.hid hsame
  have HV := Lib.hid hV
  have HL := Lib.hid hL
  clear hp1 hp2 hsame hV hL hmx
  refine callsIn_of_wp Try.func65 rfl trivial ?_ rfl
  simp only [Try.ntmps65, List.size_toArray, List.length_cons, List.length_nil, Nat.reduceAdd, Nat.reduceSub, Array.replicate_succ, Array.replicate_zero, List.push_toArray, List.append_toArray, List.nil_append, List.cons_append]
  gi_wp2
  gi_loopw [4] (fun iv wr => ∃ (pre : List Nat) (i : Nat), iv = .int .i64 (i : Nat) ∧ (i : Int) ≤ 9223372036854775807 ∧ L = pre ++ eachL (btB (datB bs)) N i ∧ J pre wr ∧ (∀ j, j < w0.heap.size → wr.heap[j]? = w0.heap[j]?) ∧ wr.heap[p2]? = some (.cells #[.pointer (some ⟨gv, 0, none⟩)] 37 (0, 0)))
    (fun iv _ => N + 8 - (intOf iv).toNat)
  case atStart => exact ⟨[], from_.toNat, by first | rfl | (rw [← HMX.out]), by omega, HL.out, h0, HS.out, HP2.out⟩
  case round =>
    obtain ⟨pre, i, rfl, hi, hx, hJ, hs, hp2⟩ := hrel
    have hv := HV.out.same hs
    have c2 := cell_of_one hp2
    have k1 := hv.k1
    have HX := Lib.hid hx
    have HSR := Lib.hid hs
    have HPR := Lib.hid hp2
    have HVR := Lib.hid hv
    clear hx hs hp2 hv c1
    by_cases hin : i < N
    · have k0 := HVR.out.k0
      have k3 := HVR.out.k3
      have hfit := HVR.out.fit
      have hnN := HVR.out.nN
      have hix : 8 + i / 8 < bs.length := by rw [hfit]; unfold oE oM oS oG; omega
      have hbig : bs.length ≤ 100000000 := by have := HVR.out.mn; rw [hfit]; unfold oE oM oS oG; omega
      obtain ⟨b, o, rfl, hc⟩ := byte_cell HVR.out.sl (8 + i / 8) hix
      have hdat : bs.getD (8 + i / 8) 0 = (datB bs).getD (i / 8) 0 := by unfold datB; rw [drop_getD]
      rw [hdat] at hc
      have hlen := HVR.out.sl.le
      obtain ⟨y, hy⟩ : ∃ y : Nat, y = ((datB bs).getD (i / 8) 0).toNat := ⟨_, rfl⟩
      rw [← hy] at hc
      have hy2 : y ≤ 255 := by rw [hy]; have := UInt8.toNat_lt ((datB bs).getD (i / 8) 0); omega
      obtain ⟨z, hz⟩ : ∃ z, z = y / 2 ^ (i % 8) := ⟨_, rfl⟩
      have hzi : (y : Int) / 2 ^ (i % 8) = (z : Int) := by rw [hz, Int.natCast_ediv, Int.natCast_pow]; rfl
      have hz2 : z ≤ 255 := by rw [hz]; exact Nat.le_trans (Nat.div_le_self _ _) hy2
      have hsk := fun h => each_zero (d := datB bs) (N := N) (i := i) h
      have hnx := fun t h => each_next (d := datB bs) (N := N) (i := i) (t := t) h
      rw [← hy, ← hz] at hsk hnx
      have HSK := Lib.hid hsk
      have HNX := Lib.hid hnx
      clear hsk hnx hdat hfit hy hz
      have htm : ((i : Int) % 8).toNat = i % 8 := by omega
      have hmin : min (i % 8) 8 = i % 8 := by omega
      have hw1 : IntKind.i64.wrap ((i : Int) / 8) = (i : Int) / 8 := by rw [IntKind.wrap_i64]; omega
      have hw2 : IntKind.i64.wrap (8 + (i : Int) / 8) = 8 + (i : Int) / 8 := by rw [IntKind.wrap_i64]; omega
      have htn : (8 + (i : Int) / 8).toNat = 8 + i / 8 := by omega
      have htr : ((i : Int).tmod 8) = (i : Int) % 8 := Int.tmod_eq_emod_of_nonneg (by omega)
      have htz : (0 : Int) ≤ (i : Int) % 8 := by omega
      have hix2 : (8 : Int) + (i : Int) / 8 < (bs.length : Int) := by omega
      have hix3 : (0 : Int) ≤ 8 + (i : Int) / 8 := by omega
      gi_wp2
      gi_quiet_th (fail)
      have hJ2 := hJd _ _ nq hJ
      have hs2 : ∀ j, j < w0.heap.size → (wr.drewN nq).heap[j]? = w0.heap[j]? := HSR.out
      have hp2 : (wr.drewN nq).heap[p2]? = some (.cells #[.pointer (some ⟨gv, 0, none⟩)] 37 (0, 0)) := HPR.out
      have hv2 : VecAt (wr.drewN nq) gv (some ⟨b, o, none⟩) c bs N m := HVR.out.drewN nq
      have c2' := cell_of_one hp2
      have k1' := hv2.k1
      have HJ2 := Lib.hid hJ2
      have HS2 := Lib.hid hs2
      have HP2' := Lib.hid hp2
      clear hJ hJ2 hs2 hp2 hv2 HSR HPR HVR k0 k1 k3 c2 hc htm hmin hw1 hw2 htn htr htz hix2 hix3 hix
      generalize wr.drewN nq = wq at c2' k1' HJ2 HS2 HP2' ⊢
      by_cases hz0 : z = 0
      · have hsk := HSK.out hz0
        have e0 : ((z : Int) == 0) = true := by simp [hz0]
        have HE := Lib.hid hsk
        clear HSK HNX hz0 hsk
        gi_wp2
        go_roundw
        case rel => exact ⟨pre, i / 8 * 8 + 8, by go_num, by omega, by rw [HX.out, HE.out], HJ2.out, HS2.out, HP2'.out⟩
        case measure => simp [intOf]; omega
      · obtain ⟨t, ht⟩ : ∃ t, t = Lib.trailingZeros8 z := ⟨_, rfl⟩
        obtain ⟨h1, h2, h3⟩ := HNX.out t hz0 ht
        have htz := fun w => Try.bits_TrailingZeros8 (z : Int) w (by omega) (by omega)
        rw [Int.toNat_natCast, ← ht] at htz
        have e0 : ((z : Int) == 0) = false := by simp; omega
        have HTZ := Lib.hid htz
        have hIt : ((i : Int) + (t : Int)) = ((i + t : Nat) : Int) := by omega
        by_cases hit : i + t < N
        · have hst : L = (pre ++ [i + t]) ++ eachL (btB (datB bs)) N (i + t + 1) := by rw [HX.out, h3, each_hit hit h2, List.append_assoc]; rfl
          have hlen : pre.length < L.length := by rw [hst]; simp
          obtain ⟨fn, tmps, assign, body, hy, hR⟩ := hY pre (i + t) wq HJ2.out hlen
          have henc : encI (i + t) = #[.int .i64 ((i : Int) + (t : Int))] := by unfold encI; rw [hIt]
          rw [henc] at hy
          have HST := Lib.hid hst
          clear HSK HNX hz0 ht h2 h3 htz hst hlen henc hIt
          gi_wp2_with (refine ⟨trivial, ?_⟩; gi_at_call 63; refine (callsIn_wide.2 (HTZ.out _)).mono ?_; rintro e w' ⟨rfl, rfl⟩)
          refine hR.mono ?_
          rintro e W3 (⟨rfl, hJ3, hk3⟩ | ⟨rfl, hJx3⟩)
          · have hs3 : ∀ j, j < w0.heap.size → W3.heap[j]? = w0.heap[j]? := fun j hj => (hk3 j (.inl hj)).trans (HS2.out j hj)
            have hp3 := (hk3 p2 (.inr (.inr rfl))).trans HP2'.out
            have HS3 := Lib.hid hs3
            have HP3 := Lib.hid hp3
            clear hs3 hp3 hk3
            gi_wp2
            go_roundw
            case rel => exact ⟨pre ++ [i + t], i + t + 1, by go_num, by omega, HST.out, hJ3, HS3.out, HP3.out⟩
            case measure => simp [intOf]; omega
          · gi_wp2
            refine bodyPost_ret (results_none rfl _ _ _) rfl ?_
            exact ⟨⟨_, rfl⟩, .inr ⟨pre ++ [i + t], ⟨_, HST.out.symm⟩, hJx3⟩⟩
        · have hend : L = pre := by rw [HX.out, h3, each_end (by omega)]; simp
          have HE := Lib.hid hend
          clear HSK HNX hz0 ht h2 h3 htz hend hIt
          gi_wp2_with (refine ⟨trivial, ?_⟩; gi_at_call 63; refine (callsIn_wide.2 (HTZ.out _)).mono ?_; rintro e w' ⟨rfl, rfl⟩)
          refine ⟨fun _ h => (by cases h), ?_⟩
          gi_wp2
          refine bodyPost_ret (results_none rfl _ _ _) rfl ?_
          exact ⟨⟨_, rfl⟩, .inl ⟨pre, HE.out.symm, HJ2.out⟩⟩
    · have hend : eachL (btB (datB bs)) N i = [] := each_end (by omega)
      have HE := Lib.hid hend
      clear hend
      gi_wp2
      go_end0
      exact ⟨⟨_, rfl⟩, .inl ⟨pre, by rw [HX.out, HE.out]; simp, hJ⟩⟩
theorem each_in (n : Nat) (gv : Nat) (from_ : Int) (w : World) :
    CallsIn Fence.wide n Try.prog 61 #[.pointer (some ⟨gv, 0, none⟩), .int .i64 from_] w fun e w' => e = .returned (.func (.func 65) #[] #[.pointer (some ⟨w.heap.size + 1, 0, none⟩), .pointer (some ⟨w.heap.size, 0, none⟩)]) ∧ w' = (w.alloc (.cells #[.pointer (some ⟨gv, 0, none⟩)] 37)).alloc (.cells #[.int .i64 from_] 3) := by
  refine callsIn_of_wp Try.func61 rfl trivial ?_ rfl
  simp only [Try.ntmps61, List.size_toArray, List.length_cons, List.length_nil, Nat.reduceAdd, Nat.reduceSub, Array.replicate_succ, Array.replicate_zero, List.push_toArray, List.append_toArray, List.nil_append, List.cons_append]
  gi_wp2
  go_ret
  exact ⟨rfl, rfl⟩
end Go.Proofs.Ytpphjiialgmidaa
