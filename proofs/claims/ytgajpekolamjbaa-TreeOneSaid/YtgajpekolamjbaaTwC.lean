/- TwL TwN TwC, laid as one. -/
import Derived.Test.YtgajpekolamjbaaTpW
import Derived.Sort.CutIn
set_option linter.unusedVariables false
set_option linter.unusedSimpArgs false
/- walk.level: one level by the next. -/
namespace Go.Proofs.Ytgajpekolamjbaa
open Go.RowKit Go.Shelf Go.Tk
/-- What a level hands back: true and all that it went through, or false, stopped. -/
def LevR (w0 : World) (B gd : Nat) (ids : Qd) (l : Nat) (Ln : Nat) (J Jx : Nat → World → Prop) (m : Nat) (r : List (Nat × (Nat → Nat)) × WkS) (e : Ending) (X' : World) : Prop :=
  (e = .returned (.bool true) ∧ J (m + r.1.length) X' ∧ WkM w0 B gd ids l r.2 X') ∨ (e = .returned (.bool false) ∧ ∃ i, i ≤ Ln ∧ Jx i X')
def LevC (w0 : World) (B gd : Nat) (b : List UInt8) (ids : Qd) (l : Nat) (L : List (Nat × (Nat → Nat))) (J Jx : Nat → World → Prop) (k : Nat) : Prop :=
  ∀ (lo hi m : Nat) (s : WkS) (X : World) (rest : List (Nat × (Nat → Nat))), WkM w0 B gd ids l s X → J m X → L.drop m = (mtL b ids (3 - k) lo hi s).1 ++ rest →
    CallsIn Fence.wide 6 Try.prog 107 #[.pointer (some ⟨B, 0, none⟩), .int .i64 (k : Nat), .int .i64 (lo : Nat), .int .i64 (hi : Nat)] X (LevR w0 B gd ids l L.length J Jx m (mtL b ids (3 - k) lo hi s))
set_option maxRecDepth 100000 in
set_option maxHeartbeats 6000000 in
theorem level_step (w0 : World) (B gd : Nat) (b : List UInt8) (ids : Qd) (l : Nat) (L : List (Nat × (Nat → Nat))) (J Jx : Nat → World → Prop) (a : Option Addr) (cap : Nat) (vp : Nat → Option Addr) (hT : TreeM w0 gd b a cap vp) (hB : w0.heap.size ≤ B)
    (hJg : ∀ i X Y, J i X → X.grownBy Y none → J i Y) (hJs : ∀ i X c v s, J i X → WkM w0 B gd ids l s X → J i (X.setCell ⟨B, c, none⟩ v))
    (hY : ∀ i X (h : i < L.length), J i X → YieldAt Fence.wide 5 Try.prog l (encT L[i]) X fun e X' =>
      (e = .returned (.bool true) ∧ J (i + 1) X' ∧ ∀ j, (j < w0.heap.size ∨ j = B) → X'.heap[j]? = X.heap[j]?) ∨ (e = .returned (.bool false) ∧ Jx (i + 1) X'))
    (k : Nat) (hk : k ≤ 3) (ih : k < 3 → LevC w0 B gd b ids l L J Jx (k + 1)) : LevC w0 B gd b ids l L J Jx k := by
  intro lo hi m s X rest hW hJ hL
  have hTX := hT.same hW.sm
  obtain ⟨nk, hnk⟩ : ∃ nk, nk = tN b k := ⟨_, rfl⟩
  have hnkl : nk ≤ 1048576 := by rw [hnk]; exact hT.nk (by omega)
  obtain ⟨pk, hpk⟩ : ∃ pk, pk = s.past k := ⟨_, rfl⟩
  obtain ⟨l1, hl1⟩ : ∃ l1, l1 = max lo pk := ⟨_, rfl⟩
  obtain ⟨h1, hh1⟩ : ∃ h1, h1 = min hi nk := ⟨_, rfl⟩
  have hmax : max (lo : Int) (pk : Int) = (l1 : Nat) := by omega
  have hmin : min (hi : Int) (nk : Int) = (h1 : Nat) := by omega
  obtain ⟨v, hv⟩ : ∃ v, v = ids.at k := ⟨_, rfl⟩
  have hmt : mtL b ids (3 - k) lo hi s = if h1 ≤ l1 then ([], s) else
      if 0 ≤ v then (if srT b k l1 h1 v = h1 ∨ ((tM b k (srT b k l1 h1 v) : Nat) : Int) ≠ v then ([], ⟨upF s.past k h1, s.q⟩) else mtI (mtG b ids k) 1 (srT b k l1 h1 v) ⟨upF s.past k h1, s.q⟩)
      else mtI (mtG b ids k) (h1 - l1) l1 ⟨upF s.past k h1, s.q⟩ := by
    rw [mtL_eq b ids k hk, hv, hh1, hl1, hpk, hnk]; rfl
  obtain ⟨M, hM⟩ : ∃ M, M = mtL b ids (3 - k) lo hi s := ⟨_, rfl⟩
  rw [← hM] at hmt hL ⊢
  have e0 := hW.c0
  have ep := hW.cp k (by omega)
  rw [← hpk] at ep
  have c0 := hTX.c0 (k := k) (p := k * 8) (by omega) rfl
  rw [← hnk] at c0
  have HT := Lib.hid hT
  have HW := Lib.hid hW
  have HJG := Lib.hid hJg
  have HJS := Lib.hid hJs
  have HY := Lib.hid hY
  have IH := Lib.hid ih
  have HL := Lib.hid hL
  have HM := Lib.hid hmt
  have HV := Lib.hid hv
  have HNK := Lib.hid hnk
  have HJ := Lib.hid hJ
  have HB := Lib.hid hB
  have hltB := hW.row.lt
  clear hT hW hJg hJs hY ih hL hmt hv hnk hTX hM hh1 hl1 hpk hJ
  refine callsIn_of_wp Try.func107 rfl trivial ?_ rfl
  simp only [Try.ntmps107, List.size_toArray, List.length_cons, List.length_nil, Nat.reduceAdd, Nat.reduceSub, Array.replicate_succ, Array.replicate_zero, List.push_toArray, List.append_toArray, List.nil_append, List.cons_append]
  gi_upto_region 2 with (fail)
  refine wpIn_wide.2 ?_
  refine wp_region_quiet_all (fun w' => ∃ n, w' = World.drewN _ n) (by kernel_rfl) (by kernel_rfl) ⟨1, rfl⟩ ?_
  repeat (go_big_quiet_step (fail))
  refine wpQuiet_nil ?_
  rintro _ ⟨n1, rfl⟩
  have hw2 := HW.out.drewN n1
  have hj2 := HJG.out m X (X.drewN n1) HJ.out (by have hb := below_drewN (Below.refl X.heap.size X) n1; exact ⟨hb.os, hb.tape, hb.output, hb.size, fun k hk _ => hb.block k hk⟩)
  generalize X.drewN n1 = X2 at hw2 hj2 ⊢
  have HW2 := Lib.hid hw2
  have HJ2 := Lib.hid hj2
  clear hw2 hj2 ep c0 e0 HW HJ
  by_cases hle : h1 ≤ l1
  · have d1 : decide ((h1 : Int) ≤ (l1 : Int)) = true := decide_eq_true (by omega)
    have d2 : decide (h1 ≤ l1) = true := decide_eq_true hle
    have HM0 := Lib.hid (show M = ([], s) by rw [HM.out, if_pos hle])
    gi_wp2
    go_ret
    refine .inl ⟨rfl, ?_, ?_⟩
    · rw [HM0.out]; exact HJ2.out
    · rw [HM0.out]; exact HW2.out
  · have d1 : decide ((h1 : Int) ≤ (l1 : Int)) = false := decide_eq_false (by omega)
    have d2 : decide (h1 ≤ l1) = false := decide_eq_false hle
    have hM2 := HM.out
    rw [if_neg hle] at hM2
    have HM2 := Lib.hid hM2
    have hw3 := HW2.out.past HB.out k h1 (by omega)
    have hj3 := HJS.out m X2 (5 + k) (.int .i64 (h1 : Nat)) s HJ2.out HW2.out
    have ep := HW2.out.cp k (by omega)
    have fp := HW2.out.row.frozen (5 + k)
    clear hM2
    gi_upto_region 6 with (fail)
    generalize X2.setCell ⟨B, 5 + k, none⟩ (.int .i64 (h1 : Nat)) = X3 at hw3 hj3 ⊢
    have HW3 := Lib.hid hw3
    have HJ3 := Lib.hid hj3
    clear hj3 ep fp HW2 HJ2
    have ei := hw3.ci k (by omega)
    rw [← HV.out] at ei
    clear hw3
    gi_upto_if 52 with (fail)
    have hlt1 : l1 < h1 := by omega
    have hh1n : h1 ≤ nk := by omega
    gi_cut [2, 3] from 52 (fun s2 s3 wx => ∃ i0 c : Nat, s2 = .int .i64 (i0 : Nat) ∧ s3 = .int .i64 ((i0 + c : Nat) : Int) ∧ i0 + c ≤ nk ∧ J m wx ∧ WkM w0 B gd ids l ⟨upF s.past k h1, s.q⟩ wx ∧ M = mtI (mtG b ids k) c i0 ⟨upF s.past k h1, s.q⟩)
    case first =>
      by_cases hv0 : 0 ≤ v
      rotate_left
      · have d3 : decide (0 ≤ v) = false := decide_eq_false hv0
        have HM3 := Lib.hid (show M = mtI (mtG b ids k) (h1 - l1) l1 ⟨upF s.past k h1, s.q⟩ by rw [HM2.out, if_neg hv0])
        have hs1 : ((l1 + (h1 - l1) : Nat) : Int) = (h1 : Int) := by omega
        have HS1 := Lib.hid hs1
        clear hs1
        gi_wp2
        gi_meet
        exact ⟨l1, h1 - l1, rfl, by rw [HS1.out], by omega, HJ3.out, HW3.out, HM3.out⟩
      · have d3 : decide (0 ≤ v) = true := decide_eq_true hv0
        have hM3 := HM2.out
        rw [if_pos hv0] at hM3
        obtain ⟨j, hj⟩ : ∃ j, j = srT b k l1 h1 v := ⟨_, rfl⟩
        have hjb : l1 ≤ j ∧ j ≤ h1 := by rw [hj]; exact srT_le b k l1 h1 v (by omega)
        have hsr := (callsIn_wide (n := 5)).2 (tsearch_calls (HT.out.same HW3.out.sm) k (by omega) l1 h1 v (by omega) (by omega) (k * 8) rfl)
        rw [← hj] at hsr hM3
        obtain ⟨tm, htm⟩ : ∃ tm, tm = tM b k j := ⟨_, rfl⟩
        rw [← htm] at hM3
        have HSR := Lib.hid hsr
        have HM3 := Lib.hid hM3
        have HTM := Lib.hid htm
        clear hsr hM3 hj htm ei
        gi_upto_region 9 with (refine ⟨trivial, ?_⟩; gi_at_call 64; (with_reducible refine HSR.out.mono ?_); rintro e w4 ⟨rfl, hb4⟩; (have HW4 := Lib.hid (HW3.out.below HB.out hb4)); (have HJ4 := Lib.hid (HJG.out m X3 w4 HJ3.out ⟨hb4.os, hb4.tape, hb4.output, hb4.size, fun k hk _ => hb4.block k hk⟩)); clear hb4)
        by_cases hjh : j = h1
        · have d4 : ((j : Int) == (h1 : Int)) = true := by simp [hjh]
          have d5 : (j == h1) = true := by simp [hjh]
          have HM0 := Lib.hid (show M = ([], ⟨upF s.past k h1, s.q⟩) by rw [HM3.out, if_pos (.inl hjh)])
          have HJH := Lib.hid hjh
          clear hjh
          gi_wp2
          refine ⟨trivial, ?_⟩
          gi_wp2
          go_ret
          refine .inl ⟨rfl, ?_, ?_⟩
          · rw [HM0.out]; exact HJ4.out
          · rw [HM0.out]; exact HW4.out
        · have d4 : ((j : Int) == (h1 : Int)) = false := by simp; omega
          have d5 : (j == h1) = false := by simp [hjh]
          have hnum := (callsIn_wide (n := 5)).2 (tnum_calls (HT.out.same HW4.out.sm) (k := k) (p := k * 8) (by omega) rfl j (by omega))
          rw [← HTM.out] at hnum
          have HNUM := Lib.hid hnum
          clear hnum
          by_cases hne : (tm : Int) = v
          · have d6 : ((tm : Int) != v) = false := by simp [hne]
            have HM5 := Lib.hid (show M = mtI (mtG b ids k) 1 j ⟨upF s.past k h1, s.q⟩ by rw [HM3.out, if_neg (by omega)])
            have HNE := Lib.hid hne
            have HJH := Lib.hid hjh
            clear hne hjh
            gi_wp2_with (refine ⟨trivial, ?_⟩; gi_at_call 62; (with_reducible refine HNUM.out.mono ?_); rintro e w5 ⟨rfl, q5, hq5⟩; (have HW5 := Lib.hid (show WkM w0 B gd ids l ⟨upF s.past k h1, s.q⟩ w5 by rw [hq5]; exact HW4.out.drewN q5)); (have HJ5 := Lib.hid (show J m w5 by rw [hq5]; exact HJG.out m w4 _ HJ4.out (by have hb := below_drewN (Below.refl w4.heap.size w4) q5; exact ⟨hb.os, hb.tape, hb.output, hb.size, fun k hk _ => hb.block k hk⟩))); clear hq5)
            gi_meet
            exact ⟨j, 1, rfl, by go_num, by have := HJH.out; omega, HJ5.out, HW5.out, HM5.out⟩
          · have d6 : ((tm : Int) != v) = true := by simp [hne]
            have HM0 := Lib.hid (show M = ([], ⟨upF s.past k h1, s.q⟩) by rw [HM3.out, if_pos (.inr hne)])
            have HNE := Lib.hid hne
            have HJH := Lib.hid hjh
            clear hne hjh
            gi_wp2_with (refine ⟨trivial, ?_⟩; gi_at_call 62; (with_reducible refine HNUM.out.mono ?_); rintro e w5 ⟨rfl, q5, hq5⟩; (have HW5 := Lib.hid (show WkM w0 B gd ids l ⟨upF s.past k h1, s.q⟩ w5 by rw [hq5]; exact HW4.out.drewN q5)); (have HJ5 := Lib.hid (show J m w5 by rw [hq5]; exact HJG.out m w4 _ HJ4.out (by have hb := below_drewN (Below.refl w4.heap.size w4) q5; exact ⟨hb.os, hb.tape, hb.output, hb.size, fun k hk _ => hb.block k hk⟩))); clear hq5)
            go_ret
            refine .inl ⟨rfl, ?_, ?_⟩
            · rw [HM0.out]; exact HJ5.out
            · rw [HM0.out]; exact HW5.out
    case rest =>
      obtain ⟨i0, c, rfl, rfl, hic, hjc, hwc, hMc⟩ := hcut
      rename World => X4
      have HJ4 := Lib.hid hjc
      have HW4 := Lib.hid hwc
      have HMC := Lib.hid hMc
      obtain ⟨E, hE⟩ : ∃ E, E = i0 + c := ⟨_, rfl⟩
      rw [← hE] at hic ⊢
      have HE := Lib.hid hE
      clear hjc hwc hMc hE ei
      gi_wp2
      gi_loopw [11] (fun iv wx => ∃ (i c' m' : Nat) (s' : WkS), iv = .int .i64 (i : Nat) ∧ i + c' = E ∧ J m' wx ∧ WkM w0 B gd ids l s' wx ∧ L.drop m' = (mtI (mtG b ids k) c' i s').1 ++ rest ∧ m + M.1.length = m' + (mtI (mtG b ids k) c' i s').1.length ∧ M.2 = (mtI (mtG b ids k) c' i s').2) (fun iv _ => E - (intOf iv).toNat)
      case atStart => exact ⟨i0, c, m, _, rfl, HE.out.symm, HJ4.out, HW4.out, by rw [← HMC.out]; exact HL.out, by rw [HMC.out], by rw [HMC.out]⟩
      case round =>
        obtain ⟨i, c', m', s', rfl, hi, hj', hw', hl', hm', hs'⟩ := hrel
        rename World => wr
        have HJ' := Lib.hid hj'
        have HW' := Lib.hid hw'
        have HL' := Lib.hid hl'
        have HM' := Lib.hid hm'
        have HS' := Lib.hid hs'
        clear hj' hl' hm' hs'
        cases c' with
        | zero =>
          obtain rfl : i = E := by omega
          have HR := Lib.hid (show J (m + M.1.length) wr by rw [HM'.out]; exact HJ'.out)
          have HR2 := Lib.hid (show WkM w0 B gd ids l M.2 wr by rw [HS'.out]; exact hw')
          clear hw'
          gi_wp2
          go_ret
          exact .inl ⟨rfl, HR.out, HR2.out⟩
        | succ c2 =>
          have hlt : i < E := by omega
          have d7 : decide ((i : Int) < (E : Int)) = true := decide_eq_true (by omega)
          obtain ⟨tm, htm⟩ : ∃ tm, tm = tM b k i := ⟨_, rfl⟩
          have hnum := fun q => tnum_calls (HT.out.same (hw'.drewN q).sm) (k := k) (p := k * 8) (by omega) rfl i (by omega)
          rw [← htm] at hnum
          have HNUM := Lib.hid hnum
          have HTM := Lib.hid htm
          clear hw' hnum htm
          gi_upto_region 15 with (fail)
          refine wpIn_wide.2 ?_
          refine wp_region_quiet_tail (fun w' => ∃ n, w' = World.drewN _ n) 8 (by kernel_rfl) (by kernel_rfl) ⟨1, rfl⟩ ?_
          simp only [List.take_succ_cons, List.take_zero, List.drop_succ_cons, List.drop_zero]
          repeat (go_big_quiet_step ((go_at_call 62; (with_reducible exact quiet_dr (HNUM.out _)))))
          refine wpQuiet_nil ?_
          rintro _ ⟨n1, rfl⟩
          have hw6 := (HW'.out.drewN n1).quad HB.out k tm (by omega)
          have hj6 := HJS.out m' (wr.drewN n1) (9 + k) (.int .i64 (tm : Nat)) s' (HJG.out m' wr _ HJ'.out (by have hb := below_drewN (Below.refl wr.heap.size wr) n1; exact ⟨hb.os, hb.tape, hb.output, hb.size, fun k hk _ => hb.block k hk⟩)) (HW'.out.drewN n1)
          have eq := (HW'.out.drewN n1).cq k (by omega)
          have fq := (HW'.out.drewN n1).row.frozen (9 + k)
          generalize wr.drewN n1 = w5 at hw6 hj6 eq fq ⊢
          have HW6 := Lib.hid hw6
          have HJ6 := Lib.hid hj6
          have HMI := Lib.hid (show mtI (mtG b ids k) (c2 + 1) i s' = ((mtG b ids k i s').1 ++ (mtI (mtG b ids k) c2 (i + 1) (mtG b ids k i s').2).1, (mtI (mtG b ids k) c2 (i + 1) (mtG b ids k i s').2).2) from rfl)
          clear hw6 hj6
          by_cases hk3 : k = 3
          · obtain ⟨qq, hqq⟩ : ∃ qq, qq = upF s'.q k tm := ⟨_, rfl⟩
            have hg : mtG b ids k i s' = ([(i, qq)], ⟨s'.past, qq⟩) := by
              rw [hqq, HTM.out]
              unfold mtG; rw [if_pos hk3, hk3]
            have hl7 := HL'.out
            have hm7 := HM'.out
            have hs7 := HS'.out
            rw [HMI.out, hg] at hl7 hm7 hs7
            simp only [List.cons_append, List.nil_append, List.length_cons] at hl7 hm7 hs7
            have hml : m' < L.length := by
              rcases Nat.lt_or_ge m' L.length with h | h
              · exact h
              · rw [List.drop_eq_nil_of_le h] at hl7; cases hl7
            rw [List.drop_eq_getElem_cons hml] at hl7
            have henc : encT L[m'] = #[.int .i64 (i : Nat), .agg #[.int .i64 (qq 0 : Nat), .int .i64 (qq 1 : Nat), .int .i64 (qq 2 : Nat), .int .i64 (qq 3 : Nat)]] := by rw [(List.cons.inj hl7).1]; rfl
            have HENC := Lib.hid henc
            have HL7 := Lib.hid (List.cons.inj hl7).2
            have HM7 := Lib.hid hm7
            have HS7 := Lib.hid hs7
            have hw7 := HW6.out
            rw [← hqq] at hw7
            have HQQ := Lib.hid hqq
            have d8 : decide ((k : Int) = 3) = true := decide_eq_true (by omega)
            have d9 : ((k : Int) == 3) = true := by simp; omega
            have d10 : (k == 3) = true := by simp [hk3]
            clear hg hl7 hm7 hs7 henc hqq hk3
            go_wp2_with fail
            gi_upto_region 17 with (fail)
            generalize w5.setCell ⟨B, 9 + k, none⟩ (.int .i64 (tm : Nat)) = w6 at hw7 HJ6 ⊢
            have y0 := hw7.cy
            have q0 := hw7.cq 0 (by omega)
            have q1 := hw7.cq 1 (by omega)
            have q2 := hw7.cq 2 (by omega)
            have q3 := hw7.cq 3 (by omega)
            simp only [Nat.reduceAdd] at q0 q1 q2 q3
            have HW7 := Lib.hid hw7
            clear hw7 HW6
            refine wpIn_region_quiet_tail Fence.wide_round (fun w' => ∃ n, w' = World.drewN _ n) 9 (by kernel_rfl) (by kernel_rfl) ⟨1, rfl⟩ ?_
            simp only [List.take_succ_cons, List.take_zero, List.drop_succ_cons, List.drop_zero]
            repeat (quiet_step_in (fail))
            refine wpQuietIn_nil ?_
            rintro _ ⟨n7, rfl⟩
            have hj7 := HJG.out m' w6 (w6.drewN n7) HJ6.out (by have hb := below_drewN (Below.refl w6.heap.size w6) n7; exact ⟨hb.os, hb.tape, hb.output, hb.size, fun k hk _ => hb.block k hk⟩)
            have hw8 := HW7.out.drewN n7
            clear y0 q0 q1 q2 q3
            generalize w6.drewN n7 = w7 at hj7 hw8 ⊢
            obtain ⟨fn, tmps, assign, body, hy, hR⟩ := HY.out m' w7 hml hj7
            rw [HENC.out] at hy
            have HW8 := Lib.hid hw8
            clear hj7 hw8
            gi_wp2
            refine hR.mono ?_
            rintro e X8 (⟨rfl, hJ8, hk8⟩ | ⟨rfl, hJx8⟩)
            · have hw9 : WkM w0 B gd ids l ⟨s'.past, qq⟩ X8 := ⟨(hk8 B (.inr rfl)).trans HW8.out.row, fun j hj => (hk8 j (.inl hj)).trans (HW8.out.sm j hj)⟩
              have HW9 := Lib.hid hw9
              have HJ9 := Lib.hid hJ8
              clear hk8 hw9 hJ8 hR
              gi_wp2
              go_roundw
              case rel => exact ⟨i + 1, c2, m' + 1, _, by go_num, by omega, HJ9.out, HW9.out, HL7.out, by rw [HM7.out]; omega, HS7.out⟩
              case measure => simp [intOf]; omega
            · have HJX := Lib.hid hJx8
              clear hJx8 hR
              gi_wp2
              go_ret
              exact .inr ⟨rfl, m' + 1, by omega, HJX.out⟩
          · have hg : mtG b ids k i s' = mtL b ids (3 - (k + 1)) (chL b k i) (chH b k i) ⟨s'.past, upF s'.q k tm⟩ := by unfold mtG; rw [if_neg hk3, HTM.out]
            obtain ⟨R, hRR⟩ : ∃ R, R = mtG b ids k i s' := ⟨_, rfl⟩
            rw [← hRR] at hg
            have hl7 := HL'.out
            have hm7 := HM'.out
            have hs7 := HS'.out
            rw [HMI.out, ← hRR] at hl7 hm7 hs7
            simp only [List.length_append] at hl7 hm7 hs7
            rw [List.append_assoc] at hl7
            have hl8 : L.drop (m' + R.1.length) = (mtI (mtG b ids k) c2 (i + 1) R.2).1 ++ rest := by rw [← List.drop_drop, hl7, List.drop_left]
            have HL7 := Lib.hid hl7
            have HL8 := Lib.hid hl8
            have HM7 := Lib.hid hm7
            have HS7 := Lib.hid hs7
            have HG := Lib.hid hg
            have hch := (callsIn_wide (n := 5)).2 (tchild_calls (HT.out.same HW6.out.sm) k (by omega) i (by omega))
            obtain ⟨cl, hcl⟩ : ∃ cl, cl = chL b k i := ⟨_, rfl⟩
            obtain ⟨ch, hch2⟩ : ∃ ch, ch = chH b k i := ⟨_, rfl⟩
            rw [← hcl, ← hch2] at hch
            have HCH := Lib.hid hch
            have HCL := Lib.hid hcl
            have HCC := Lib.hid hch2
            have e0 := HW6.out.c0
            have d8 : decide ((k : Int) = 3) = false := decide_eq_false (by omega)
            have d9 : ((k : Int) == 3) = false := by simp; omega
            have d10 : (k == 3) = false := by simp [hk3]
            obtain ⟨k1, hk1⟩ : ∃ k1, k1 = k + 1 := ⟨_, rfl⟩
            have hkk : (k : Int) + 1 = (k1 : Nat) := by omega
            have HK1 := Lib.hid hk1
            clear hk1
            clear hg hl7 hm7 hs7 hl8 hch hcl hch2 hRR
            go_wp2_with fail
            gi_upto_region 20 with (refine ⟨trivial, ?_⟩; gi_at_call 66; (with_reducible refine HCH.out.mono ?_); rintro e w7 ⟨rfl, q7, hq7⟩; (have HW7 := Lib.hid (show WkM w0 B gd ids l ⟨s'.past, upF s'.q k tm⟩ w7 by rw [hq7]; exact HW6.out.drewN q7)); (have HJ7 := Lib.hid (show J m' w7 by rw [hq7]; exact HJG.out m' _ _ HJ6.out (by have hb := below_drewN (Below.refl (w5.setCell ⟨B, 9 + k, none⟩ (.int .i64 (tm : Nat))).heap.size (w5.setCell ⟨B, 9 + k, none⟩ (.int .i64 (tm : Nat)))) q7; exact ⟨hb.os, hb.tape, hb.output, hb.size, fun k hk _ => hb.block k hk⟩))); clear hq7)
            have hlv := IH.out (by omega) cl ch m' ⟨s'.past, upF s'.q k tm⟩ w7 ((mtI (mtG b ids k) c2 (i + 1) R.2).1 ++ rest) HW7.out HJ7.out (by rw [HCL.out, HCC.out, ← HG.out]; exact HL7.out)
            rw [← HK1.out] at hlv
            rw [HK1.out, HCL.out, HCC.out, ← HG.out, ← HK1.out, ← HCL.out, ← HCC.out] at hlv
            have HLV := Lib.hid ((callsIn_wide (n := 5)).2 (callsIn_wide.1 hlv))
            clear hlv
            gi_wp2
            refine ⟨trivial, ?_⟩
            gi_at_call 107
            refine HLV.out.mono ?_
            rintro e w8 (⟨rfl, hJ8, hw8⟩ | ⟨rfl, hJx8⟩)
            · have HW9 := Lib.hid hw8
              have HJ9 := Lib.hid hJ8
              clear hw8 hJ8
              gi_wp2
              go_roundw
              case rel => exact ⟨i + 1, c2, m' + R.1.length, R.2, by go_num, by omega, HJ9.out, HW9.out, HL8.out, by rw [HM7.out]; omega, HS7.out⟩
              case measure => simp [intOf]; omega
            · have HJX := Lib.hid hJx8
              clear hJx8
              gi_wp2
              go_ret
              exact .inr ⟨rfl, HJX.out⟩
end Go.Proofs.Ytgajpekolamjbaa
/- Match's iterator of a viewed tree of any bytes, by the numbers of its rounds. -/
namespace Go.Tk
open Go Go.RowKit
/-- What stands in S, what is of the kind Q, and what is no cells from B on, lies as it lay. -/
structure KpO (Q : Obj → Prop) (S : Nat → Prop) (B : Nat) (X Y : World) : Prop where
  size : X.heap.size ≤ Y.heap.size
  same : ∀ (j : Nat) (o : Obj), X.heap[j]? = some o → (S j ∨ Q o ∨ (B ≤ j ∧ o.isCells = false)) → Y.heap[j]? = some o
theorem KpO.trans {Q : Obj → Prop} {S : Nat → Prop} {B : Nat} {X Y Z : World} (h : KpO Q S B X Y) (k : KpO Q S B Y Z) : KpO Q S B X Z := ⟨Nat.le_trans h.size k.size, fun j o ho hs => k.same j o (h.same j o ho hs) hs⟩
theorem KpO.to {Q : Obj → Prop} {S : Nat → Prop} {B B' : Nat} {X Y : World} (h : KpO Q S B X Y) (hB : B ≤ B') : KeepsFrom B' X Y := ⟨h.size, fun k o hk ho hc => h.same k o ho (.inr (.inr ⟨by omega, hc⟩))⟩
theorem yield_wide {m m' : Nat} {P : Program} {l : Nat} {args : Array Value} {W : World} {R : Ending → World → Prop} (h : YieldAt Fence.wide m P l args W R) : YieldAt Fence.wide m' P l args W R := by
  obtain ⟨fn, tmps, assign, body, h1, h2⟩ := h
  exact ⟨fn, tmps, assign, body, h1, h2.1, fun c cs _ => h2.2 c cs (room_wide _)⟩
end Go.Tk
namespace Go.Proofs.Ytgajpekolamjbaa
open Go.RowKit Go.Shelf Go.Tk
theorem level_all (w0 : World) (B gd : Nat) (b : List UInt8) (ids : Qd) (l : Nat) (L : List (Nat × (Nat → Nat))) (J Jx : Nat → World → Prop) (a : Option Addr) (cap : Nat) (vp : Nat → Option Addr) (hT : TreeM w0 gd b a cap vp) (hB : w0.heap.size ≤ B)
    (hJg : ∀ i X Y, J i X → X.grownBy Y none → J i Y) (hJs : ∀ i X c v s, J i X → WkM w0 B gd ids l s X → J i (X.setCell ⟨B, c, none⟩ v))
    (hY : ∀ i X (h : i < L.length), J i X → YieldAt Fence.wide 5 Try.prog l (encT L[i]) X fun e X' =>
      (e = .returned (.bool true) ∧ J (i + 1) X' ∧ ∀ j, (j < w0.heap.size ∨ j = B) → X'.heap[j]? = X.heap[j]?) ∨ (e = .returned (.bool false) ∧ Jx (i + 1) X')) :
    ∀ m k, k + m = 3 → LevC w0 B gd b ids l L J Jx k := by
  intro m
  induction m with
  | zero => intro k hk; exact level_step w0 B gd b ids l L J Jx a cap vp hT hB hJg hJs hY k (by omega) (fun h => by omega)
  | succ m ih => intro k hk; exact level_step w0 B gd b ids l L J Jx a cap vp hT hB hJg hJs hY k (by omega) (fun h => ih (k + 1) (by omega))
/-- The block that Match's iterator turns: the walk. -/
def QoW (o : Obj) : Prop := ∃ cs f, o = .cells cs 166 f
theorem tmatchI_in (n : Nat) (w0 : World) (gd : Nat) (b : List UInt8) (a : Option Addr) (cap : Nat) (vp : Nat → Option Addr) (hT : TreeM w0 gd b a cap vp) (p1 p2 : Nat) (q : Qd)
    (L : List (Nat × (Nat → Nat))) (hL : L = matchT b q)
    (W : World) (hp1 : W.heap[p1]? = some (.cells #[.pointer (some ⟨gd, 0, none⟩)] 39 (0, 0))) (hp2 : W.heap[p2]? = some (.cells (qcs q).toArray 24 (0, 0))) (hsz : w0.heap.size ≤ W.heap.size) (hsame : ∀ j, j < w0.heap.size → W.heap[j]? = w0.heap[j]?) :
    SeqI Fence.wide n Try.prog 106 #[.pointer (some ⟨p1, 0, none⟩), .pointer (some ⟨p2, 0, none⟩)] (L.map encT) QoW (KpO QoW (fun j => j < w0.heap.size)) W := by
  intro l J Jx W' hW' hA hAx hY h0
  rw [List.length_map]
  have hW1 := (hW'.block _ (lt_of_block hp1)).trans hp1
  have hW2 := (hW'.block _ (lt_of_block hp2)).trans hp2
  have hsz' := hW'.size
  have b1 := cell_of_one hW1
  have b2 := fun k hk => qcs_cell hW2 k hk
  have q0 := b2 0 (by omega)
  have q1 := b2 1 (by omega)
  have q2 := b2 2 (by omega)
  have q3 := b2 3 (by omega)
  obtain ⟨n0, hn0⟩ : ∃ n0, n0 = tN b 0 := ⟨_, rfl⟩
  have hTW := hT.same (fun j hj => (hW'.block _ (by omega)).trans (hsame j hj))
  refine callsIn_of_wp Try.func106 rfl trivial ?_ rfl
  simp only [Try.ntmps106, List.size_toArray, List.length_cons, List.length_nil, Nat.reduceAdd, Nat.reduceSub, Array.replicate_succ, Array.replicate_zero, List.push_toArray, List.append_toArray, List.nil_append, List.cons_append]
  have HTW := Lib.hid hTW
  have c0 := hTW.c0 (k := 0) (p := 0) (by omega) rfl
  rw [← hn0] at c0
  have hB : w0.heap.size ≤ W'.heap.size := by omega
  have hs0 : ∀ j, j < w0.heap.size → W'.heap[j]? = w0.heap[j]? := fun j hj => (hW'.block _ (by omega)).trans (hsame j hj)
  have HA := Lib.hid hA
  have HY := Lib.hid hY
  have HL := Lib.hid hL
  have HN := Lib.hid hn0
  have HS0 := Lib.hid hs0
  have HT := Lib.hid hT
  have H0 := Lib.hid h0
  clear hA hAx hY hL hn0 hTW hs0 hT hW' hp1 hp2 hW1 hW2 b2 hsame h0
  gi_upto_region 1 with (fail)
  have hal : Below W'.heap.size W' (W'.alloc (.cells #[.pointer (some ⟨gd, 0, none⟩), .int .i64 (q.at 0), .int .i64 (q.at 1), .int .i64 (q.at 2), .int .i64 (q.at 3), .int .i64 0, .int .i64 0, .int .i64 0, .int .i64 0, .int .i64 0, .int .i64 0, .int .i64 0, .int .i64 0, .func (.yield l) #[] #[]] 166)) := (Below.refl _ _).alloc (Nat.le_refl _) _
  have hrow : RowC (W'.alloc (.cells #[.pointer (some ⟨gd, 0, none⟩), .int .i64 (q.at 0), .int .i64 (q.at 1), .int .i64 (q.at 2), .int .i64 (q.at 3), .int .i64 0, .int .i64 0, .int .i64 0, .int .i64 0, .int .i64 0, .int .i64 0, .int .i64 0, .int .i64 0, .func (.yield l) #[] #[]] 166)) W'.heap.size 14 166 (wkC gd q l ⟨fun _ => 0, fun _ => 0⟩) := heap_alloc_new W' _
  generalize W'.alloc (.cells #[.pointer (some ⟨gd, 0, none⟩), .int .i64 (q.at 0), .int .i64 (q.at 1), .int .i64 (q.at 2), .int .i64 (q.at 3), .int .i64 0, .int .i64 0, .int .i64 0, .int .i64 0, .int .i64 0, .int .i64 0, .int .i64 0, .int .i64 0, .func (.yield l) #[] #[]] 166) = X1 at hal hrow ⊢
  have hg1 : W'.grownBy X1 none := ⟨hal.os, hal.tape, hal.output, hal.size, fun k hk _ => hal.block k hk⟩
  have hwk : WkM w0 W'.heap.size gd q l ⟨fun _ => 0, fun _ => 0⟩ X1 := ⟨hrow, fun j hj => (hal.block j (by omega)).trans (HS0.out j hj)⟩
  have hlv := level_all w0 W'.heap.size gd b q l L (fun i X => J i X ∧ w0.heap.size ≤ X.heap.size ∧ ∃ cs, X.heap[W'.heap.size]? = some (.cells cs 166 (0, 0))) Jx a cap vp HT.out hB
    (fun i X Y ⟨h1, h2, cs, h3⟩ hg => ⟨HA.out i X Y none h1 hg (fun r e => by cases e), Nat.le_trans h2 hg.size, cs, (hg.block _ (lt_of_block h3) (fun e => by cases e)).trans h3⟩)
    (fun i X c v s ⟨h1, h2, cs, h3⟩ hw => ⟨HA.out i X _ (some W'.heap.size) h1 (grownBy_setCell ⟨rfl, rfl, rfl, Nat.le_refl _, fun _ _ _ => rfl⟩ c v) (fun r e => by cases e; exact ⟨Nat.le_refl _, _, hw.row, _, _, rfl⟩), by simpa using h2, _, hw.row.set c v⟩)
    (fun i X hi ⟨h1, h2, cs, h3⟩ => by
      have hy := HY.out i X (by rw [List.length_map]; exact hi) h1
      rw [List.getElem_map] at hy
      obtain ⟨fn, tmps, assign, body, y1, y2⟩ := yield_wide (m' := 5) hy
      refine ⟨fn, tmps, assign, body, y1, y2.mono fun e X' h => ?_⟩
      rcases h with ⟨rfl, h4, h5⟩ | ⟨rfl, h4, _⟩
      · refine .inl ⟨rfl, ⟨h4, Nat.le_trans h2 h5.size, cs, h5.same _ _ h3 (.inr (.inl ⟨cs, _, rfl⟩))⟩, fun j hj => ?_⟩
        rcases hj with hj | rfl
        · have hlt : j < X.heap.size := by omega
          rw [Array.getElem?_eq_getElem hlt]
          exact h5.same j _ (Array.getElem?_eq_getElem hlt) (.inl hj)
        · rw [h3]; exact h5.same _ _ h3 (.inr (.inl ⟨cs, _, rfl⟩))
      · exact .inr ⟨rfl, h4⟩) 3 0 rfl 0 n0 0 ⟨fun _ => 0, fun _ => 0⟩ X1 [] hwk ⟨HA.out 0 W' X1 none H0.out hg1 (fun r e => by cases e), by have := hal.size; omega, _, hrow⟩
    (by rw [HL.out, HN.out, List.drop_zero, List.append_nil]; rfl)
  have b1' : X1.cell? ⟨p1, 0, none⟩ = some (.pointer (some ⟨gd, 0, none⟩)) := (World.cell?_of_block (hal.block _ (block_lt_of_cell b1))).trans b1
  have c0' : X1.cell? ⟨gd, 0, none⟩ = some (.int .i64 (n0 : Nat)) := (World.cell?_of_block (hal.block _ (block_lt_of_cell c0))).trans c0
  have HLV := Lib.hid ((callsIn_wide (n := n - 1)).2 (callsIn_wide.1 hlv))
  clear b1 c0 hlv hal hrow hg1 hwk q0 q1 q2 q3
  gi_wp2
  refine ⟨trivial, (fun h => by cases h), ?_⟩
  refine HLV.out.mono ?_
  rintro e w8 (⟨rfl, hJ8, hw8⟩ | ⟨rfl, i8, hi8, hJx8⟩)
  · have HJ9 := Lib.hid (show J L.length w8 by
      have := hJ8.1
      rw [Nat.zero_add, HN.out] at this
      rw [HL.out]; exact this)
    clear hw8 hJ8 HLV
    gi_wp2
    go_end0
    exact ⟨⟨_, rfl⟩, .inl HJ9.out⟩
  · have HJ9 := Lib.hid hJx8
    clear hJx8 HLV
    gi_wp2
    go_end0
    exact ⟨⟨_, rfl⟩, .inr ⟨i8, hi8, HJ9.out⟩⟩
end Go.Proofs.Ytgajpekolamjbaa
/- Count in a viewed tree of any bytes. -/
namespace Go.Tk
open Go Go.RowKit
theorem KpO.refl (Q : Obj → Prop) (S : Nat → Prop) (B : Nat) (X : World) : KpO Q S B X X := ⟨Nat.le_refl _, fun _ _ h _ => h⟩
theorem leaves1 {F : Fence} {n : Nat} {P : Program} {fn : Func} {R : Ending → World → Prop} {a : Act} {W : World} {D : Nat} {v : Value}
    (h : a.defers = [{ target := .collected D, args := #[] }]) (hK : W.heap[D]? = some (.deferred (some [])))
    (hres : (results fn a.tmps).run P (W.putObj D (.deferred none)) = .ok v (W.putObj D (.deferred none))) (hR : R (.returned v) (W.putObj D (.deferred none))) : LeavesInM F n P fn a.tmps R a.defers .returning W := by
  rw [h]
  refine ⟨by simp, .inl ⟨_, _, rfl, run_takeDeferred hK, ?_⟩⟩
  exact ⟨_, hres, hR⟩
theorem leaves0 {F : Fence} {n : Nat} {P : Program} {fn : Func} {R : Ending → World → Prop} {a : Act} {W : World} {v : Value}
    (h : a.defers = []) (hres : (results fn a.tmps).run P W = .ok v W) (hR : R (.returned v) W) : LeavesInM F n P fn a.tmps R a.defers .returning W := by
  rw [h]
  exact ⟨_, hres, hR⟩
end Go.Tk
namespace Go.Proofs.Ytgajpekolamjbaa
open Go.RowKit Go.Shelf Go.Tk
attribute [local go_sem] Oper.semAt_some
/-- Count: how many fixed levels are left, the level, between which entries. -/
def ctS (b : List UInt8) (p : Qd) : Nat → Nat → Nat → Nat → Nat
  | 0, _, _, _ => tN b 3
  | f + 1, j, lo, hi => if p.at j < 0 then (matchT b p).length else
      if min hi (tN b j) ≤ srT b j (min lo (min hi (tN b j))) (min hi (tN b j)) (p.at j) ∨ ((tM b j (srT b j (min lo (min hi (tN b j))) (min hi (tN b j)) (p.at j)) : Nat) : Int) ≠ p.at j then 0
      else if j = 3 then 1
      else if f = 0 then stR b (3 - j) (srT b j (min lo (min hi (tN b j))) (min hi (tN b j)) (p.at j) + 1) - stR b (3 - j) (srT b j (min lo (min hi (tN b j))) (min hi (tN b j)) (p.at j))
      else ctS b p f (j + 1) (chL b j (srT b j (min lo (min hi (tN b j))) (min hi (tN b j)) (p.at j))) (chH b j (srT b j (min lo (min hi (tN b j))) (min hi (tN b j)) (p.at j)))
def countT (b : List UInt8) (p : Qd) : Nat := ctS b p (wdF p 4) 0 0 (tN b 0)
theorem ct_step (b : List UInt8) (p : Qd) (f j lo hi h i : Nat) (hh : h = min hi (tN b j)) (hi2 : i = srT b j (min lo h) h (p.at j)) (hv : ¬ p.at j < 0) :
    ctS b p (f + 1) j lo hi = if h ≤ i ∨ ((tM b j i : Nat) : Int) ≠ p.at j then 0 else if j = 3 then 1 else if f = 0 then stR b (3 - j) (i + 1) - stR b (3 - j) i else ctS b p f (j + 1) (chL b j i) (chH b j i) := by
  rw [hi2, hh]
  simp only [ctS]
  rw [if_neg hv]
set_option maxRecDepth 100000 in
set_option maxHeartbeats 4000000 in
theorem tcount_calls (w : World) (gd : Nat) (b : List UInt8) (a : Option Addr) (cap : Nat) (vp : Nat → Option Addr) (hT : TreeM w gd b a cap vp) (q : Qd) :
    Calls Try.prog 31 #[.pointer (some ⟨gd, 0, none⟩), .agg (qcs q).toArray] w fun e w' => e = .returned (.int .i64 (countT b q : Nat)) ∧ Below w.heap.size w w' := by
  obtain ⟨R, hR⟩ : ∃ R, R = countT b q := ⟨_, rfl⟩
  rw [← hR]
  have hB0 : Below w.heap.size w (w.alloc (.cells (qcs q).toArray 24)) := (Below.refl _ _).alloc (Nat.le_refl _) _
  have hq0 := heap_alloc_new w (.cells (qcs q).toArray 24)
  have hz0 : w.heap.size < (w.alloc (.cells (qcs q).toArray 24)).heap.size := by simp
  have HT := Lib.hid hT
  have HR := Lib.hid hR
  clear hT hR
  refine (callsIn_wide (n := 6)).1 ?_
  refine callsIn_of_wp_marks Try.func31 rfl trivial ?_ rfl
  simp only [Try.ntmps31, List.size_toArray, List.length_cons, List.length_nil, Nat.reduceAdd, Nat.reduceSub, Array.replicate_succ, Array.replicate_zero, List.push_toArray, List.append_toArray, List.nil_append, List.cons_append]
  gi_upto_region 1 with (fail)
  generalize w.alloc (.cells (qcs q).toArray 24) = w0 at hB0 hq0 hz0 ⊢
  have hwild : ∀ X, CallsIn Fence.wide 5 Try.prog 69 #[.agg #[.int .i64 (q.at 0), .int .i64 (q.at 1), .int .i64 (q.at 2), .int .i64 (q.at 3)]] X fun e w' => e = .returned (.int .i64 (wdF q 4 : Nat)) ∧ Below X.heap.size X w' := fun X => (callsIn_wide (n := 5)).2 (twild_calls X q)
  obtain ⟨wk, hwk⟩ : ∃ wk, wk = wdF q 4 := ⟨_, rfl⟩
  rw [← hwk] at hwild
  have hwk4 : wk ≤ 4 := by rw [hwk]; exact wdF_le q 4
  have hqc : ∀ X, Below w0.heap.size w0 X → ∀ k, k < 4 → X.cell? ⟨w.heap.size, k, none⟩ = some (.int .i64 (q.at k)) := fun X hX k hk => qcs_cell ((hX.block _ hz0).trans hq0) k hk
  have q0 := hqc w0 (Below.refl _ _) 0 (by omega)
  have q1 := hqc w0 (Below.refl _ _) 1 (by omega)
  have q2 := hqc w0 (Below.refl _ _) 2 (by omega)
  have q3 := hqc w0 (Below.refl _ _) 3 (by omega)
  have HQC := Lib.hid hqc
  have HQ0 := Lib.hid hq0
  have HT0 := Lib.hid (HT.out.below hB0)
  have HB0 := Lib.hid hB0
  have HWD := Lib.hid hwild
  have HWK := Lib.hid hwk
  clear hqc hq0 hB0 HT hwild hwk
  obtain ⟨n0, hn0⟩ : ∃ n0, n0 = tN b 0 := ⟨_, rfl⟩
  have hn0l : n0 ≤ 1048576 := by rw [hn0]; exact HT0.out.nk (by omega)
  have HN0 := Lib.hid hn0
  clear hn0
  gi_upto_region 2 with (refine ⟨trivial, ?_⟩; gi_at_call 69; (with_reducible refine (HWD.out _).mono ?_); rintro e w1 ⟨rfl, hb1⟩; (have HB1 := Lib.hid hb1); clear hb1)
  have c0 := (HT0.out.below HB1.out).c0 (k := 0) (p := 0) (by omega) rfl
  rw [← HN0.out] at c0
  clear q0 q1 q2 q3
  gi_quiet_th (fail)
  have hbq := HB1.out.trans (below_drewN (Below.refl _ w1) nq |>.mono HB1.out.size)
  generalize w1.drewN nq = w2 at hbq ⊢
  have HB2 := Lib.hid hbq
  clear hbq c0 HB1
  gi_upto_region 3 with (fail)
  gi_wp2
  gi_loopw [6, 7, 21] (fun lv hv jv wr => ∃ (j lo hi f : Nat), lv = .int .i64 (lo : Nat) ∧ hv = .int .i64 (hi : Nat) ∧ jv = .int .i64 (j : Nat) ∧ j + f = wk ∧ hi ≤ 2097152 ∧ ctS b q f j lo hi = R ∧ Below w0.heap.size w0 wr) (fun _ _ jv _ => wk - (intOf jv).toNat)
  case atStart => exact ⟨0, 0, n0, wk, rfl, rfl, rfl, by omega, by omega, by rw [HR.out, HN0.out, HWK.out]; rfl, HB2.out⟩
  case round =>
    rename World => wr
    obtain ⟨j, lo, hi, f, rfl, rfl, rfl, hjf, hhi, hct, hbr⟩ := hrel
    have HBR := Lib.hid hbr
    have HCT := Lib.hid hct
    have hTR := HT0.out.below hbr
    have hzr := hbr.size
    clear hct
    cases f with
    | zero =>
      obtain rfl : j = wk := by omega
      have hlen := tlen_calls hTR
      have hR3 : tN b 3 = R := HCT.out
      rw [hR3] at hlen
      have HLEN := Lib.hid ((callsIn_wide (n := 5)).2 hlen)
      clear hlen hR3 hTR hbr
      gi_wp2_with (refine ⟨trivial, ?_⟩; gi_at_call 22; (with_reducible refine HLEN.out.mono ?_); rintro e w3 ⟨rfl, rfl⟩)
      refine leaves0 (a := { tmps := _, defers := [] }) rfl ((results_tmp rfl _ _ _).trans rfl) ⟨rfl, HB0.out.trans (HBR.out.mono HB0.out.size)⟩
    | succ f =>
      have hlt : j < wk := by omega
      have hj4 : j < 4 := by omega
      have dj : decide ((j : Int) < (wk : Int)) = true := decide_eq_true (by omega)
      have ck := HQC.out wr hbr j hj4
      obtain ⟨v, hv⟩ : ∃ v, v = q.at j := ⟨_, rfl⟩
      rw [← hv] at ck
      have HV := Lib.hid hv
      have HTR := Lib.hid hTR
      clear hv hTR hbr
      by_cases hneg : v < 0
      · have d1 : decide (v < 0) = true := decide_eq_true hneg
        have HRM := Lib.hid (show (matchT b q).length = R by have := HCT.out; simp only [ctS] at this; rw [if_pos (by rw [← HV.out]; exact hneg)] at this; exact this)
        have q0 := HQC.out wr HBR.out 0 (by omega)
        have q1 := HQC.out wr HBR.out 1 (by omega)
        have q2 := HQC.out wr HBR.out 2 (by omega)
        have q3 := HQC.out wr HBR.out 3 (by omega)
        gi_upto_region 9 with (fail)
        have c3 := Boxed.new wr 3 (.int .i64 0)
        have hB3 := (Below.refl wr.heap.size wr).alloc (Nat.le_refl _) (.cells #[.int .i64 0] 3)
        have hz3 : (wr.alloc (.cells #[.int .i64 0] 3)).heap.size = wr.heap.size + 1 := by simp
        have hq3 : ∀ k, k < 4 → (wr.alloc (.cells #[.int .i64 0] 3)).cell? ⟨w.heap.size, k, none⟩ = some (.int .i64 (q.at k)) := fun k hk => HQC.out _ (HBR.out.trans (hB3.mono hzr)) k hk
        generalize wr.alloc (.cells #[.int .i64 0] 3) = W3 at c3 hB3 hz3 hq3 ⊢
        have q0 := hq3 0 (by omega)
        have q1 := hq3 1 (by omega)
        have q2 := hq3 2 (by omega)
        have q3 := hq3 3 (by omega)
        clear hq3
        have hB4 := HBR.out.trans (hB3.mono hzr)
        have C3 := Lib.hid c3
        have HB3 := Lib.hid hB4
        obtain ⟨B10, hB10⟩ : ∃ B10, B10 = wr.heap.size := ⟨_, rfl⟩
        rw [← hB10] at C3 hz3 ⊢
        have HB10 := Lib.hid hB10
        have hM := tmatch_in 5 gd q W3
        have HM := Lib.hid (show CallsIn Fence.wide 5 Try.prog 68 #[.pointer (some ⟨gd, 0, none⟩), .agg #[.int .i64 (q.at 0), .int .i64 (q.at 1), .int .i64 (q.at 2), .int .i64 (q.at 3)]] W3 fun e w' => e = .returned (.func (.func 106) #[] #[.pointer (some ⟨W3.heap.size, 0, none⟩), .pointer (some ⟨W3.heap.size + 1, 0, none⟩)]) ∧ w' = (W3.alloc (.cells #[.pointer (some ⟨gd, 0, none⟩)] 39)).alloc (.cells (qcs q).toArray 24) from hM)
        clear hB10 c3 hB3 hB4 hM ck dj d1
        gi_wp2_with (refine ⟨trivial, ?_⟩; gi_at_call 68; (with_reducible refine HM.out.mono ?_); rintro e w' ⟨rfl, rfl⟩)
        have p1 := ((Boxed.new W3 39 (.pointer (some ⟨gd, 0, none⟩))).alloc (.cells (qcs q).toArray 24))
        have p2 : ((W3.alloc (.cells #[.pointer (some ⟨gd, 0, none⟩)] 39)).alloc (.cells (qcs q).toArray 24)).heap[W3.heap.size + 1]? = some (.cells (qcs q).toArray 24 (0, 0)) := by
          have := heap_alloc_new (W3.alloc (.cells #[.pointer (some ⟨gd, 0, none⟩)] 39)) (.cells (qcs q).toArray 24)
          rwa [World.size_alloc] at this
        have d3 := (C3.out.alloc (.cells #[.pointer (some ⟨gd, 0, none⟩)] 39)).alloc (.cells (qcs q).toArray 24)
        have hB4 := (HB3.out.alloc HB3.out.size (.cells #[.pointer (some ⟨gd, 0, none⟩)] 39)).alloc (by have := HB3.out.size; simp; omega) (.cells (qcs q).toArray 24)
        have hz4 : ((W3.alloc (.cells #[.pointer (some ⟨gd, 0, none⟩)] 39)).alloc (.cells (qcs q).toArray 24)).heap.size = W3.heap.size + 2 := by simp
        generalize (W3.alloc (.cells #[.pointer (some ⟨gd, 0, none⟩)] 39)).alloc (.cells (qcs q).toArray 24) = W4 at p1 p2 d3 hB4 hz4 ⊢
        clear q0 q1 q2 q3
        rw [hz3] at p1 p2
        obtain ⟨L, hL⟩ : ∃ L, L = matchT b q := ⟨_, rfl⟩
        have hlen : L.length = R := by rw [hL]; exact HRM.out
        have hRn : R ≤ 1048576 := by have h1 := match_len b q; have h2 := HT0.out.nk (k := 3) (by omega); have h3 := HRM.out; omega
        have HLEN := Lib.hid hlen
        have hST := fun n => tmatchI_in n w0 gd b a cap vp HT0.out (B10 + 1) (B10 + 1 + 1) q L hL W4 p1 p2 hB4.size (fun j hj => hB4.block j hj)
        have HST := Lib.hid hST
        have HB4 := Lib.hid hB4
        have hsz4 := hB4.size
        have hzB : w0.heap.size ≤ B10 := by have := HBR.out.size; have := HB10.out; omega
        clear hL hST hlen hB4
        rename_i Q1 K1 a1
        refine wpIn_rangeFunc_ownI rfl (by omega) (gf := 106) (lb := #[.pointer (some ⟨B10 + 1, 0, none⟩), .pointer (some ⟨B10 + 1 + 1, 0, none⟩)]) rfl trivial (enters_of Try.func106 (by kernel_rfl) rfl)
          (HST.out _) (fun h k => h.trans k) (fun X l o o' hl hl2 h1 h2 h3 => ⟨by simp, fun j o hj hs => (World.putObj_heap_other (fun e => by
              subst e
              rw [h1] at hj; cases hj
              rcases hs with hs | ⟨cs, f, hs⟩ | hs
              · omega
              · subst hs; cases h2
              · omega)).trans hj⟩) (Below.refl _ _) (fun x hx => by obtain ⟨y, _, rfl⟩ := List.mem_map.1 hx; rfl)
          (fun i X => Boxed X B10 3 (.int .i64 (i : Nat)) ∧ Below w0.heap.size w0 X)
          (fun c i X => False)
          (fun i X Y row ⟨h1, h2⟩ hg hr => ⟨(hg.block B10 (lt_of_block h1) (fun e => by have := (hr B10 e.symm).1; omega)).trans h1, h2.grown hg h2.size (fun r e => by have := (hr r e).1; omega)⟩)
          (fun c i X Y row h hg hr => h)
          ⟨d3, HB4.out⟩
          (axAt L ?fr1) (axAt_own _ _) ?assign1 ?body1 ?done1 ?stop1
        case assign1 =>
          intro l i hi X K hI hK
          have hiL : i < L.length := by simpa using hi
          obtain ⟨z, hz⟩ : ∃ z, z = L[i] := ⟨_, rfl⟩
          rw [List.getElem_map, ← hz]
          have HZ := Lib.hid hz
          clear hz
          unfold encT
          gi_wp2
          refine hK _ _ (KeepsFrom.refl _ _) (KpO.refl _ _ _ _) hI ?_
          refine axAt_intro hiL HZ.out ?_
          exact Eq.refl _
        case body1 =>
          rintro l i hi a' X hl ⟨r0, hr0⟩ ⟨hbx, hBX⟩ ⟨hiL, rfl⟩
          have hb := hbx.cell
          have fb := hbx.frozen
          have HBX := Lib.hid hBX
          have HBB := Lib.hid hbx
          have hLR := HLEN.out
          have hR2 : i < 9223372036854775807 := by omega
          dsimp only
          clear hr0 hBX hLR
          gi_wp2
          refine ⟨(KeepsOthers.setCell _ _ _).from _, ⟨by simp, fun k o hk hs => (heap_setCell_other _ _ _ _ ?_).trans hk⟩, ?_, HBX.out.setCell (p := ⟨B10, 0, none⟩) hzB _⟩
          · intro e
            have e : k = B10 := e
            subst e
            have hbb : X.heap[k]? = some (.cells #[.int .i64 (i : Nat)] 3 (0, 0)) := HBB.out
            rw [hbb] at hk; cases hk
            rcases hs with hs | ⟨cs, f, hs⟩ | hs
            · omega
            · injection hs with h1 h2 h3; exact absurd h2 (by decide)
            · omega
          · exact HBB.out.set _
        case done1 =>
          rintro D X hD ⟨hbx, hBX⟩ hK
          rw [List.length_map, HLEN.out] at hbx
          have hb := hbx.cell
          have HBX := Lib.hid hBX
          have HBB := Lib.hid hbx
          clear hbx hBX
          refine a1 _ _ ?_
          gi_wp2
          show LeavesInM Fence.wide 6 _ _ _ _ _ .returning _
          refine leaves1 (v := .int .i64 (R : Nat)) (a := { tmps := _, defers := [{ target := .collected D, args := #[] }] }) rfl hK ((results_tmp rfl _ _ _).trans rfl) ⟨rfl, ?_⟩
          exact HB0.out.trans ((HBX.out.grown (grownBy_putObj' _ D (.deferred none)) HBX.out.size (fun k e => by cases e; omega)).mono HB0.out.size)
        case stop1 =>
          rintro D c i X hD hi h hK
          exact h.elim
      · have d1 : decide (v < 0) = false := decide_eq_false hneg
        obtain ⟨nk, hnk⟩ : ∃ nk, nk = tN b j := ⟨_, rfl⟩
        have hnkl : nk ≤ 1048576 := by rw [hnk]; exact HTR.out.nk hj4
        have c0 := HTR.out.c0 (k := j) (p := j * 8) hj4 rfl
        rw [← hnk] at c0
        obtain ⟨h, hh⟩ : ∃ h, h = min hi nk := ⟨_, rfl⟩
        obtain ⟨l, hl⟩ : ∃ l, l = min lo h := ⟨_, rfl⟩
        have hmin : min (hi : Int) (nk : Int) = (h : Nat) := by omega
        have hmin2 : min (lo : Int) (h : Int) = (l : Nat) := by omega
        have hlh : l ≤ h := by omega
        have hh2 : h ≤ 1048576 := by omega
        obtain ⟨i, hi2⟩ : ∃ i, i = srT b j l h v := ⟨_, rfl⟩
        have hil : i ≤ h := by rw [hi2]; exact (srT_le b j l h v hlh).2
        have hsr := (callsIn_wide (n := 5)).2 (tsearch_calls HTR.out j hj4 l h v hlh (by omega) (j * 8) rfl)
        rw [← hi2] at hsr
        have hst := ct_step b q f j lo hi h i (by rw [hh, hnk]) (by rw [hi2, hl, HV.out]) (by rw [← HV.out]; exact hneg)
        rw [HCT.out, ← HV.out] at hst
        have HSR := Lib.hid hsr
        have HST := Lib.hid hst
        clear hsr hst hnk hh hl hi2
        gi_upto_region 14 with (refine ⟨trivial, ?_⟩; gi_at_call 64; (with_reducible refine HSR.out.mono ?_); rintro e w3 ⟨rfl, hb3⟩; (have HB3 := Lib.hid (HBR.out.trans (hb3.mono hzr))); clear hb3)
        have ck3 := HQC.out w3 HB3.out j hj4
        rw [← HV.out] at ck3
        have hT3 := HT0.out.below HB3.out
        have hnum := fun q => tnum_calls (hT3.below (below_drewN (Below.refl _ w3) q)) (k := j) (p := j * 8) hj4 rfl i (by omega)
        obtain ⟨m, hm⟩ : ∃ m, m = tM b j i := ⟨_, rfl⟩
        rw [← hm] at hnum
        have HNUM := Lib.hid hnum
        have HM := Lib.hid hm
        clear hnum hm hT3 c0 ck
        have hz3 := HB3.out.size
        have hfin : ∀ {w' : World}, Below w0.heap.size w0 w' → Below w.heap.size w w' := fun hb => HB0.out.trans (hb.mono HB0.out.size)
        have HFIN : Hid (∀ (w' : World), Below w0.heap.size w0 w' → Below w.heap.size w w') := Lib.hid (fun w' h => hfin h)
        clear hfin
        by_cases hjh : h ≤ i
        · have e1 : decide ((h : Int) ≤ (i : Int)) = true := decide_eq_true (by omega)
          have e2 : decide (h ≤ i) = true := decide_eq_true hjh
          have HRR := Lib.hid (show R = 0 by rw [HST.out]; exact if_pos (.inl hjh))
          refine wpIn_wide.2 ?_
          go_quiet (fail)
          have hbq := HB3.out.trans (below_drewN (Below.refl _ w3) nq |>.mono hz3)
          generalize w3.drewN nq = w5 at hbq ⊢
          have HB5 := Lib.hid hbq
          clear hbq
          go_wp2_with fail
          gi_wp2
          refine leaves0 (a := { tmps := _, defers := [] }) rfl ((results_tmp rfl _ _ _).trans rfl) ⟨by rw [HRR.out]; rfl, HFIN.out _ HB5.out⟩
        · have e1 : decide ((h : Int) ≤ (i : Int)) = false := decide_eq_false (by omega)
          have e2 : decide (h ≤ i) = false := decide_eq_false hjh
          by_cases hne : (m : Int) = v
          rotate_left
          · have e3 : ((m : Int) != v) = true := by simp [hne]
            have HRR := Lib.hid (show R = 0 by rw [HST.out]; exact if_pos (.inr (by rw [← HM.out]; exact hne)))
            have HNE := Lib.hid hne
            clear hne
            refine wpIn_wide.2 ?_
            go_quiet ((go_at_call 62; (with_reducible exact quiet_dr (HNUM.out _))))
            have hbq := HB3.out.trans (below_drewN (Below.refl _ w3) nq |>.mono hz3)
            generalize w3.drewN nq = w5 at hbq ⊢
            have HB5 := Lib.hid hbq
            clear hbq
            go_wp2_with fail
            gi_wp2
            refine leaves0 (a := { tmps := _, defers := [] }) rfl ((results_tmp rfl _ _ _).trans rfl) ⟨by rw [HRR.out]; rfl, HFIN.out _ HB5.out⟩
          · have e3 : ((m : Int) != v) = false := by simp [hne]
            have hst3 := HST.out
            rw [if_neg (by rw [← HM.out]; omega)] at hst3
            have HST3 := Lib.hid hst3
            have HNE := Lib.hid hne
            clear hne hst3
            refine wpIn_wide.2 ?_
            go_quiet ((go_at_call 62; (with_reducible exact quiet_dr (HNUM.out _))))
            have hbq := HB3.out.trans (below_drewN (Below.refl _ w3) nq |>.mono hz3)
            generalize w3.drewN nq = w5 at hbq ⊢
            have HB5 := Lib.hid hbq
            clear hbq
            by_cases hj3 : j = 3
            · have e4 : ((j : Int) == 3) = true := by simp [hj3]
              have e5 : (j == 3) = true := by simp [hj3]
              have HRR := Lib.hid (show R = 1 by rw [HST3.out]; exact if_pos hj3)
              clear hj3
              go_wp2_with fail
              gi_wp2
              refine leaves0 (a := { tmps := _, defers := [] }) rfl ((results_tmp rfl _ _ _).trans rfl) ⟨by rw [HRR.out]; rfl, HFIN.out _ HB5.out⟩
            · have e4 : ((j : Int) == 3) = false := by simp; omega
              have e5 : (j == 3) = false := by simp [hj3]
              have hst4 := HST3.out
              rw [if_neg hj3] at hst4
              have HST4 := Lib.hid hst4
              clear hst4
              obtain ⟨k1, hk1⟩ : ∃ k1, k1 = wk - 1 := ⟨_, rfl⟩
              have hkk : (wk : Int) - 1 = (k1 : Nat) := by omega
              by_cases hf0 : f = 0
              · have e6 : ((j : Int) == (k1 : Int)) = true := by simp; omega
                have e7 : (j == k1) = true := by simp; omega
                obtain ⟨i1, hi1⟩ : ∃ i1, i1 = i + 1 := ⟨_, rfl⟩
                have hii : (i : Int) + 1 = (i1 : Nat) := by omega
                have hs1 := fun X hX => (callsIn_wide (n := 5)).2 (tstart_calls (HT0.out.below hX) (w := X) j (by omega) i1 (by omega))
                have hs0 := fun X hX => (callsIn_wide (n := 5)).2 (tstart_calls (HT0.out.below hX) (w := X) j (by omega) i (by omega))
                obtain ⟨s1, hs1'⟩ : ∃ s1, s1 = stR b (3 - j) i1 := ⟨_, rfl⟩
                obtain ⟨s0, hs0'⟩ : ∃ s0, s0 = stR b (3 - j) i := ⟨_, rfl⟩
                simp only [← hs1'] at hs1
                simp only [← hs0'] at hs0
                have HS1 := Lib.hid hs1
                have HS0 := Lib.hid hs0
                have HRR := Lib.hid (show R = s1 - s0 by rw [HST4.out, hs1', hs0', hi1]; exact if_pos hf0)
                have hs1b : s1 ≤ 1048576 ∧ s0 ≤ 1048576 := by have h3 := HT0.out.nk (k := 3) (by omega); have g1 := stR_le b (3 - j) i1; have g2 := stR_le b (3 - j) i; rw [hs1', hs0']; omega
                obtain ⟨hs1b, hs0b⟩ := hs1b
                obtain ⟨D, hD⟩ : ∃ D, D = s1 - s0 := ⟨_, rfl⟩
                have hmx : max (0 : Int) ((s1 : Int) - (s0 : Int)) = (D : Nat) := by omega
                have HD := Lib.hid hD
                clear hs1 hs0 hs1' hs0' hi1 hj3 hf0 hD hk1
                go_wp2_with fail
                gi_wp2_with (first
                  | (refine ⟨trivial, ?_⟩; gi_at_call 65; (with_reducible refine (HS1.out _ HB5.out).mono ?_); rintro e w6 ⟨rfl, q6, hq6⟩; (have HB6 := Lib.hid (show Below w0.heap.size w0 w6 by rw [hq6]; exact below_drewN HB5.out q6)); clear hq6)
                  | (refine ⟨trivial, ?_⟩; gi_at_call 65; (with_reducible refine (HS0.out _ HB6.out).mono ?_); rintro e w7 ⟨rfl, q7, hq7⟩; (have HB7 := Lib.hid (show Below w0.heap.size w0 w7 by rw [hq7]; exact below_drewN HB6.out q7)); clear hq7))
                refine leaves0 (a := { tmps := _, defers := [] }) rfl ((results_tmp rfl _ _ _).trans rfl) ⟨by rw [HRR.out, ← HD.out]; rfl, HFIN.out _ HB7.out⟩
              · have e6 : ((j : Int) == (k1 : Int)) = false := by simp; omega
                have e7 : (j == k1) = false := by simp; omega
                have HST5 := Lib.hid (show ctS b q f (j + 1) (chL b j i) (chH b j i) = R by rw [HST4.out]; exact (if_neg hf0).symm)
                have hch := (callsIn_wide (n := 5)).2 (tchild_calls (HT0.out.below HB5.out) j (by omega) i (by omega))
                obtain ⟨cl, hcl⟩ : ∃ cl, cl = chL b j i := ⟨_, rfl⟩
                obtain ⟨ch, hch2⟩ : ∃ ch, ch = chH b j i := ⟨_, rfl⟩
                have hchb : ch ≤ 2097152 := by rw [hch2]; have h1 := chH_le b j i; have h2 := HT0.out.nk (k := j + 1) (by omega); omega
                have hct5 := HST5.out
                rw [← hcl, ← hch2] at hch hct5
                have HCT5 := Lib.hid hct5
                have HCH := Lib.hid hch
                clear hch hct5 hcl hch2 hj3 hk1
                go_wp2_with fail
                gi_wp2_with (refine ⟨trivial, ?_⟩; gi_at_call 66; (with_reducible refine HCH.out.mono ?_); rintro e w7 ⟨rfl, q7, hq7⟩; (have HB7 := Lib.hid (show Below w0.heap.size w0 w7 by rw [hq7]; exact below_drewN HB5.out q7)); clear hq7)
                exact ⟨⟨j + 1, cl, ch, f, rfl, rfl, by go_num, by omega, hchb, HCT5.out, HB7.out⟩, by simp [intOf]; omega⟩
end Go.Proofs.Ytgajpekolamjbaa
