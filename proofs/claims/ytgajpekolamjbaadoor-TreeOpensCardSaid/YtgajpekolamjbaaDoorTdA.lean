/- The document's counts. -/
import Derived.Test.YtgajpekolamjbaaDoorTvA
import Derived.Test.YtgajpekolamjbaaDoorTdG
import Derived.Test.YtgajpekolamjbaaDoorSlc
import Derived.Outline
import Derived.Deep.Cut
set_option linter.unusedVariables false
set_option linter.unusedSimpArgs false
namespace Go.Proofs.YtgajpekolamjbaaDoor
open Go Go.RowKit Go.Tk
theorem Tryd.sizeHdT : (Tryd.prog.info? 31).map (·.size) = some 13 := by kernel_rfl
theorem Tryd.sizeFlT : (Tryd.prog.info? 33).map (·.size) = some 2 := by kernel_rfl
/-- A fault, as the document hands it back. -/
def flT (x : Int × Nat) : Value := .agg #[.int .i64 (x.2 : Nat), .int .i64 x.1]
/-- The head with the counts of the first k levels. -/
def hcN (b : List UInt8) (k : Nat) (cs : Nat → Value) (i : Nat) : Value := if i < k then .int .i64 (tN b i : Nat) else cs i
theorem hcN_zero (b : List UInt8) (cs : Nat → Value) : hcN b 0 cs = cs := by funext i; unfold hcN; rw [if_neg (by omega)]
theorem hcN_set (b : List UInt8) (k : Nat) (cs : Nat → Value) : setF (hcN b k cs) k (.int .i64 (tN b k : Nat)) = hcN b (k + 1) cs := by
  funext i
  by_cases e : i = k
  · subst e; rw [setF_same]; unfold hcN; rw [if_pos (by omega)]
  · rw [setF_other _ _ e]; unfold hcN
    by_cases h : i < k
    · rw [if_pos h, if_pos (by omega)]
    · rw [if_neg h, if_neg (by omega)]
theorem hcN_at (b : List UInt8) {k j : Nat} (cs : Nat → Value) (h : j < k) : hcN b k cs j = .int .i64 (tN b j : Nat) := by unfold hcN; rw [if_pos h]
/-- What the document's counts hands back. -/
def RcnR (w : World) (gh : Nat) (b : List UInt8) (cs : Nat → Value) (e : Ending) (w' : World) : Prop :=
  Kept (fun g => g = gh) w w' ∧ ∃ (x : Int) (k : Nat), k ≤ 4 ∧ e = .returned (.tuple #[.int .i64 x, flT (cnE b 4)]) ∧ RowC w' gh 13 31 (hcN b k cs) ∧ ((cnE b 4).1 = 0 → x = (tPl b 4 : Nat) ∧ k = 4)
set_option maxRecDepth 100000 in
set_option maxHeartbeats 4000000 in
theorem rcounts_calls (w : World) (a : Option Addr) (c : Nat) (b : List UInt8) (hs : SlI .u8 w a b.length c (nums b)) (gh : Nat) (cs : Nat → Value) (hR : RowC w gh 13 31 cs) (hz : ∀ i, i < 4 → ∃ x, cs i = .int .i64 x) (hga : ∀ x, a = some x → x.block ≠ gh) (hlen : b.length ≤ 140737488355328) :
    Calls Tryd.prog 19 #[.slice a b.length c, .pointer (some ⟨gh, 0, none⟩)] w (RcnR w gh b cs) := by
  have hle := hs.le
  have hmx := hs.max
  have hgw := hR.lt
  have k0 : Kept (fun g => g = gh) w (w.alloc (.cells #[.int .i64 0, .int .i64 0] 33)) := (Kept.refl _ w).alloc _
  have hr0 := heap_alloc_new w (.cells #[.int .i64 0, .int .i64 0] 33)
  have hR0 : RowC (w.alloc (.cells #[.int .i64 0, .int .i64 0] 33)) gh 13 31 cs := (heap_alloc_old w _ hgw).trans hR
  have hs0 := hs.kept k0 (fun x hx => hga x hx)
  have HI := Lib.hid Tryd.sizeFlT
  have HGA := Lib.hid hga
  have HZ := Lib.hid hz
  have HU := Lib.hid (nums_u8 b)
  clear hs hR hga hz
  go_enter Tryd.func19, Tryd.ntmps19
  go_upto_region 1 with fail
  generalize w.alloc (.cells #[.int .i64 0, .int .i64 0] 33) = w1 at k0 hr0 hR0 hs0 ⊢
  obtain ⟨g5, hg5⟩ : ∃ g5, g5 = w.heap.size := ⟨_, rfl⟩
  rw [← hg5] at hr0 ⊢
  have HK0 := Lib.hid k0
  have HR0 := Lib.hid hr0
  have HRR0 := Lib.hid hR0
  have HS0 := Lib.hid hs0
  have HG5 := Lib.hid hg5
  have hne : gh ≠ g5 := by omega
  clear k0 hr0 hR0 hs0 hg5
  go_wp2_with fail
  go_loopw [6, 7] (fun av iv wr => ∃ (k : Nat), av = .int .i64 (tPl b k : Nat) ∧ iv = .int .i64 (k : Nat) ∧ k ≤ 4 ∧ (cnE b k).1 = 0 ∧ RowC wr gh 13 31 (hcN b k cs) ∧ wr.heap[g5]? = some (.cells #[.int .i64 0, .int .i64 0] 33 (0, 0)) ∧ SlI .u8 wr a b.length c (nums b) ∧ Kept (fun g => g = gh) w wr) (fun _ iv _ => 4 - (intOf iv).toNat)
  case atStart => exact ⟨0, rfl, rfl, Nat.zero_le _, rfl, by rw [hcN_zero]; exact HRR0.out, HR0.out, HS0.out, HK0.out⟩
  case round =>
    rename World => wr
    obtain ⟨k, rfl, rfl, hk, hcn, hrow, hrf, hsl, hkp⟩ := hrel
    have HCN := Lib.hid hcn
    have HROW := Lib.hid hrow
    have HRF := Lib.hid hrf
    have HSL := Lib.hid hsl
    have HKP := Lib.hid hkp
    have hzr := hkp.size
    clear hcn hrow hrf hsl hkp HRR0 HR0 HS0 HK0
    -- the faults: the place and the error are stored, the fault is handed back
    have hfin : ∀ (W : World) (k' : Nat) (x y : Int), Kept (fun g => g = gh) w W → W.heap[g5]? = some (.cells #[.int .i64 0, .int .i64 0] 33 (0, 0)) → ((W.setCell ⟨g5, 0, none⟩ (.int .i64 x)).setCell ⟨g5, 1, none⟩ (.int .i64 y)).heap[g5]? = some (.cells #[.int .i64 x, .int .i64 y] 33 (0, 0)) ∧ Kept (fun g => g = gh) w ((W.setCell ⟨g5, 0, none⟩ (.int .i64 x)).setCell ⟨g5, 1, none⟩ (.int .i64 y)) ∧ (RowC W gh 13 31 (hcN b k' cs) → RowC ((W.setCell ⟨g5, 0, none⟩ (.int .i64 x)).setCell ⟨g5, 1, none⟩ (.int .i64 y)) gh 13 31 (hcN b k' cs)) := fun W k' x y hK hr => by
      refine ⟨stor2O hr, ?_, fun h => ?_⟩
      · exact (hK.setCell (p := ⟨g5, 0, none⟩) (.inr (by rw [HG5.out]; exact Nat.le_refl _)) _).setCell (p := ⟨g5, 1, none⟩) (.inr (by rw [HG5.out]; exact Nat.le_refl _)) _
      · exact (heap_setCell_other _ _ _ _ (by simpa using hne)).trans ((heap_setCell_other _ _ _ _ (by simpa using hne)).trans h)
    have HFIN := Lib.hid hfin
    clear hfin
    by_cases hk4 : k < 4
    · have hpl := tPl_le b k
      obtain ⟨pl, hpe⟩ : ∃ pl, pl = tPl b k := ⟨_, rfl⟩
      have htU := tUp_at b k
      have htN := tUp_nat b k
      have hp1 : (tUp b k).2.1 = tPl b (k + 1) := rfl
      rw [← hpe] at hpl htU ⊢
      obtain ⟨v, kk, er, q1, q2, q3, q4, q5, q6⟩ := ups_pk (nums b) pl (by rw [nums_len]; exact hpl)
      rw [nums_len] at q4
      rw [q2] at htU
      have htl := SlI.tail HSL.out pl hpl
      obtain ⟨A, hAd⟩ : ∃ A, A = (if c = pl then a else Option.map (fun x => x.add pl) a) := ⟨_, rfl⟩
      obtain ⟨c2, hc2⟩ : ∃ c2, c2 = c - pl := ⟨_, rfl⟩
      obtain ⟨L2, hL2⟩ : ∃ L2, L2 = b.length - pl := ⟨_, rfl⟩
      rw [← hAd, ← hc2, ← hL2] at htl
      have hN := number_calls wr A L2 c2 ((nums b).drop pl) htl (fun x hx => nums_u8 b x (List.mem_of_mem_drop hx))
      rw [q1] at hN
      unfold pkV at hN
      simp only at hN
      have HN := Lib.hid hN
      have HPE := Lib.hid hpe
      have hA' := hAd.symm
      have hc2' := hc2.symm
      have hL2' := hL2.symm
      have her : er ≤ 11 := by omega
      have her0 : 0 ≤ er := by omega
      clear q3 q4
      have HTU := Lib.hid htU
      have HTN := Lib.hid htN
      have HP1 := Lib.hid hp1
      clear htl hN q1 q2 q5 hAd hc2 hL2 hpe htU htN hp1
      go_upto_region 6 with (go_at_call 30; (with_reducible refine HN.out.mono ?_); rintro e wz ⟨rfl, rfl⟩)
      clear hA' hc2' hL2' HN
      rename World => wr
      have htU := HTU.out
      have htN := HTN.out
      have hp1 := HP1.out
      clear HTU HTN HP1
      have hend : (cE b k).1 ≠ 0 → cnE b 4 = cE b k := fun h => by
        have e : cnE b (k + 1) = cE b k := by simp only [cnE]; rw [if_neg (by rw [HCN.out]; simp)]
        rw [← e]; exact cn_stop b (by omega) (by rw [e]; exact h)
      have hgo : (cE b k).1 = 0 → (cnE b (k + 1)).1 = 0 := fun h => by simp only [cnE]; rw [if_neg (by rw [HCN.out]; simp), h]
      have HEND := Lib.hid hend
      have HGO := Lib.hid hgo
      clear hend hgo
      by_cases he : er ≠ 0
      · have hcE : cE b k = (er, pl) := by unfold cE; rw [htU, if_pos he]; simp only; rw [if_pos he, HPE.out]
        have hend := HEND.out (by rw [hcE]; exact he)
        rw [hcE] at hend
        have HE4 := Lib.hid hend
        have e1 : (er != 0) = true := by simp [he]
        have HE := Lib.hid he
        clear hcE hend he htU htN hp1
        obtain ⟨n1, n2, n3⟩ := HFIN.out wr k (pl : Nat) er HKP.out HRF.out
        have n3 := n3 HROW.out
        have HN1 := Lib.hid n1
        have HN2 := Lib.hid n2
        have HN3 := Lib.hid n3
        have c0 : wr.cell? ⟨g5, 0, none⟩ = some (.int .i64 0) := cellT0 HRF.out
        have c1 : wr.cell? ⟨g5, 1, none⟩ = some (.int .i64 0) := cellT1 HRF.out
        have f0 : wr.frozen? ⟨g5, 0, none⟩ = false := frozen_of_row wr g5 0 _ _ HRF.out
        have f1 : wr.frozen? ⟨g5, 1, none⟩ = false := frozen_of_row wr g5 1 _ _ HRF.out
        clear n1 n2 n3
        go_wp2_with fail
        refine bodyPost_ret (results_tcO rfl _ _ g5 _ _ _ _ rfl HN1.out Tryd.underlying33 rfl HI.out) rfl ⟨HN2.out, 0, k, by omega, ?_, HN3.out, fun h => absurd h (by rw [HE4.out]; exact HE.out)⟩
        rw [HE4.out]; rfl
      obtain rfl : er = 0 := by omega
      rw [if_neg (by simp)] at htU
      rw [htU] at htN hp1
      have hv : tN b k = v := by simp only at htN; omega
      have hp2 : tPl b (k + 1) = pl + kk := hp1.symm
      have hkk := tPl_le b (k + 1)
      rw [hp2] at hkk
      have HKK := Lib.hid hkk
      clear hkk
      have hcE : cE b k = if 1048576 < (v : Int) then (2, pl) else if 0 < k ∧ (v < tN b (k - 1) ∨ decide (tN b (k - 1) = 0) ≠ decide (v = 0)) then (180, pl) else (0, 0) := by
        unfold cE; rw [htU, if_neg (by simp), hv, ← HPE.out]
      have HCE := Lib.hid hcE
      have HV := Lib.hid hv
      have HP2 := Lib.hid hp2
      clear hcE hv hp1 hp2 htU htN he
      by_cases hbig : 1048576 < v
      · have hcE : cE b k = (2, pl) := by rw [HCE.out, if_pos (by omega)]
        have hend := HEND.out (by rw [hcE]; simp)
        rw [hcE] at hend
        have HE4 := Lib.hid hend
        have d1 : decide ((1048576 : Int) < (v : Int)) = true := decide_eq_true (by omega)
        have d2 : decide (1048576 < v) = true := decide_eq_true hbig
        clear hcE hend
        obtain ⟨n1, n2, n3⟩ := HFIN.out wr k (pl : Nat) 2 HKP.out HRF.out
        have n3 := n3 HROW.out
        have HN1 := Lib.hid n1
        have HN2 := Lib.hid n2
        have HN3 := Lib.hid n3
        have c0 : wr.cell? ⟨g5, 0, none⟩ = some (.int .i64 0) := cellT0 HRF.out
        have c1 : wr.cell? ⟨g5, 1, none⟩ = some (.int .i64 0) := cellT1 HRF.out
        have f0 : wr.frozen? ⟨g5, 0, none⟩ = false := frozen_of_row wr g5 0 _ _ HRF.out
        have f1 : wr.frozen? ⟨g5, 1, none⟩ = false := frozen_of_row wr g5 1 _ _ HRF.out
        clear n1 n2 n3
        go_wp2_with fail
        refine bodyPost_ret (results_tcO rfl _ _ g5 _ _ _ _ rfl HN1.out Tryd.underlying33 rfl HI.out) rfl ⟨HN2.out, 0, k, by omega, ?_, HN3.out, fun h => absurd h (by rw [HE4.out]; simp)⟩
        rw [HE4.out]; rfl
      have d1 : decide ((1048576 : Int) < (v : Int)) = false := decide_eq_false (by omega)
      have d2 : decide (1048576 < v) = false := decide_eq_false hbig
      have hcE : cE b k = if 0 < k ∧ (v < tN b (k - 1) ∨ decide (tN b (k - 1) = 0) ≠ decide (v = 0)) then (180, pl) else (0, 0) := by rw [HCE.out, if_neg (by omega)]
      have HCE2 := Lib.hid hcE
      obtain ⟨x0, hx0⟩ : ∃ x, hcN b k cs k = .int .i64 x := by unfold hcN; rw [if_neg (by omega)]; exact HZ.out k hk4
      have c0 := HROW.out.cell (i := k) (by omega)
      rw [hx0] at c0
      have f0 := HROW.out.frozen k
      have hr4 := HROW.out.set k (.int .i64 (v : Nat))
      rw [← HV.out, hcN_set, HV.out] at hr4
      have k34 : Kept (fun g => g = gh) wr (wr.setCell ⟨gh, k, none⟩ (.int .i64 (v : Nat))) := (Kept.refl (fun g => g = gh) wr).setCell (p := ⟨gh, k, none⟩) (.inl rfl) _
      have hrf4 : (wr.setCell ⟨gh, k, none⟩ (.int .i64 (v : Nat))).heap[g5]? = some (.cells #[.int .i64 0, .int .i64 0] 33 (0, 0)) := (heap_setCell_other _ _ _ _ (by simpa using fun e => hne e.symm)).trans HRF.out
      have hsl4 := HSL.out.kept k34 (fun x hx => HGA.out x hx)
      have k4 := HKP.out.trans k34 (fun _ h => .inl h)
      have hwv : IntKind.i64.wrap (v : Int) = (v : Int) := by rw [IntKind.wrap_i64]; omega
      clear hcE HCE
      go_upto_region 11 with fail
      generalize wr.setCell ⟨gh, k, none⟩ (.int .i64 (v : Nat)) = w4 at hr4 hrf4 hsl4 k4 ⊢
      have HR4 := Lib.hid hr4
      have HRF4 := Lib.hid hrf4
      have HSL4 := Lib.hid hsl4
      have HK4 := Lib.hid k4
      clear hr4 hrf4 hsl4 k4 k34 c0 f0 HROW HRF HSL HKP
      have e4 := HR4.out.cell (i := k) (by omega)
      rw [hcN_at b cs (by omega), HV.out] at e4
      by_cases h0 : 0 < k
      · obtain ⟨k1, hk1⟩ : ∃ k1 : Nat, k = k1 + 1 := ⟨k - 1, by omega⟩
        obtain ⟨m, hm⟩ : ∃ m, m = tN b k1 := ⟨_, rfl⟩
        have e5 := HR4.out.cell (i := k1) (by omega)
        rw [hcN_at b cs (by omega), ← hm] at e5
        have hce3 := HCE2.out
        rw [show k - 1 = k1 by omega, ← hm] at hce3
        have HCE3 := Lib.hid hce3
        have dk : decide ((0 : Int) < (k : Int)) = true := decide_eq_true (by omega)
        have dk' : decide (0 < k) = true := decide_eq_true h0
        have hk6 : k1 < 4 := by omega
        have hk7 : IntKind.i64.wrap ((k : Int) - 1) = (k1 : Int) := by rw [IntKind.wrap_i64]; omega
        have hk8 : (k : Int) - 1 = (k1 : Int) := by omega
        clear hce3 HCE2 hm hk1
        by_cases hA : v < m
        · have dA : decide ((v : Int) < (m : Int)) = true := decide_eq_true (by omega)
          have dA' : decide (v < m) = true := decide_eq_true hA
          have hcE : cE b k = (180, pl) := by rw [HCE3.out, if_pos ⟨h0, .inl hA⟩]
          have hend := HEND.out (by rw [hcE]; simp)
          rw [hcE] at hend
          have HE4 := Lib.hid hend
          clear hcE hend
          go_quiet (fail)
          have HRD := Lib.hid (show RowC (w4.drewN nq) gh 13 31 (hcN b (k + 1) cs) from HR4.out)
          have HRFD := Lib.hid (show (w4.drewN nq).heap[g5]? = some (.cells #[.int .i64 0, .int .i64 0] 33 (0, 0)) from HRF4.out)
          have HKD := Lib.hid (HK4.out.drewN nq)
          have HSD := Lib.hid (show SlI .u8 (w4.drewN nq) a b.length c (nums b) from HSL4.out.keep (below_drewN (Below.refl _ _) nq))
          clear e4 e5 HR4 HRF4 HK4 HSL4
          generalize w4.drewN nq = w5 at HRD HRFD HKD HSD ⊢
          obtain ⟨n1, n2, n3⟩ := HFIN.out w5 (k + 1) (pl : Nat) 180 HKD.out HRFD.out
          have n3 := n3 HRD.out
          have HN1 := Lib.hid n1
          have HN2 := Lib.hid n2
          have HN3 := Lib.hid n3
          have c0 : w5.cell? ⟨g5, 0, none⟩ = some (.int .i64 0) := cellT0 HRFD.out
          have c1 : w5.cell? ⟨g5, 1, none⟩ = some (.int .i64 0) := cellT1 HRFD.out
          have f0 : w5.frozen? ⟨g5, 0, none⟩ = false := frozen_of_row w5 g5 0 _ _ HRFD.out
          have f1 : w5.frozen? ⟨g5, 1, none⟩ = false := frozen_of_row w5 g5 1 _ _ HRFD.out
          clear n1 n2 n3
          go_wp2_with fail
          refine bodyPost_ret (results_tcO rfl _ _ g5 _ _ _ _ rfl HN1.out Tryd.underlying33 rfl HI.out) rfl ⟨HN2.out, 0, (k + 1), by omega, ?_, HN3.out, fun h => absurd h (by rw [HE4.out]; simp)⟩
          rw [HE4.out]; rfl
        have dA : decide ((v : Int) < (m : Int)) = false := decide_eq_false (by omega)
        have dA' : decide (v < m) = false := decide_eq_false hA
        by_cases hm0 : m = 0
        · have dm : ((m : Int) == 0) = true := by simp [hm0]
          have dm2 : decide (m = 0) = true := by simp [hm0]
          by_cases hn0 : v = 0
          · have dn : ((v : Int) == 0) = true := by simp [hn0]
            have dn2 : decide (v = 0) = true := by simp [hn0]
            have HP := Lib.hid (show ¬ (0 < k ∧ (v < m ∨ decide (m = 0) ≠ decide (v = 0))) from fun ⟨_, h⟩ => by
              rcases h with h | h
              · exact hA h
              · rw [dm2, dn2] at h; exact h rfl)
            clear hm0 hn0
            have hcE : (cE b k).1 = 0 := by rw [HCE3.out, if_neg HP.out]
            have HG4 := Lib.hid (HGO.out hcE)
            clear hcE
            go_quiet (fail)
            have HRD := Lib.hid (show RowC (w4.drewN nq) gh 13 31 (hcN b (k + 1) cs) from HR4.out)
            have HRFD := Lib.hid (show (w4.drewN nq).heap[g5]? = some (.cells #[.int .i64 0, .int .i64 0] 33 (0, 0)) from HRF4.out)
            have HKD := Lib.hid (HK4.out.drewN nq)
            have HSD := Lib.hid (show SlI .u8 (w4.drewN nq) a b.length c (nums b) from HSL4.out.keep (below_drewN (Below.refl _ _) nq))
            clear e4 e5 HR4 HRF4 HK4 HSL4
            generalize w4.drewN nq = w5 at HRD HRFD HKD HSD ⊢
            go_wp2_with fail
            exact ⟨⟨k + 1, by rw [HP2.out]; have := HKK.out; go_num, by go_num, by omega, HG4.out, HRD.out, HRFD.out, HSD.out, HKD.out⟩, by simp [intOf]; omega⟩
          · have dn : ((v : Int) == 0) = false := by simp [hn0]
            have dn2 : decide (v = 0) = false := by simp [hn0]
            have HP := Lib.hid (show 0 < k ∧ (v < m ∨ decide (m = 0) ≠ decide (v = 0)) from ⟨h0, .inr (by rw [dm2, dn2]; decide)⟩)
            clear hm0 hn0
            have hcE : cE b k = (180, pl) := by rw [HCE3.out, if_pos HP.out]
            have hend := HEND.out (by rw [hcE]; simp)
            rw [hcE] at hend
            have HE4 := Lib.hid hend
            clear hcE hend
            go_quiet (fail)
            have HRD := Lib.hid (show RowC (w4.drewN nq) gh 13 31 (hcN b (k + 1) cs) from HR4.out)
            have HRFD := Lib.hid (show (w4.drewN nq).heap[g5]? = some (.cells #[.int .i64 0, .int .i64 0] 33 (0, 0)) from HRF4.out)
            have HKD := Lib.hid (HK4.out.drewN nq)
            have HSD := Lib.hid (show SlI .u8 (w4.drewN nq) a b.length c (nums b) from HSL4.out.keep (below_drewN (Below.refl _ _) nq))
            clear e4 e5 HR4 HRF4 HK4 HSL4
            generalize w4.drewN nq = w5 at HRD HRFD HKD HSD ⊢
            obtain ⟨n1, n2, n3⟩ := HFIN.out w5 (k + 1) (pl : Nat) 180 HKD.out HRFD.out
            have n3 := n3 HRD.out
            have HN1 := Lib.hid n1
            have HN2 := Lib.hid n2
            have HN3 := Lib.hid n3
            have c0 : w5.cell? ⟨g5, 0, none⟩ = some (.int .i64 0) := cellT0 HRFD.out
            have c1 : w5.cell? ⟨g5, 1, none⟩ = some (.int .i64 0) := cellT1 HRFD.out
            have f0 : w5.frozen? ⟨g5, 0, none⟩ = false := frozen_of_row w5 g5 0 _ _ HRFD.out
            have f1 : w5.frozen? ⟨g5, 1, none⟩ = false := frozen_of_row w5 g5 1 _ _ HRFD.out
            clear n1 n2 n3
            go_wp2_with fail
            refine bodyPost_ret (results_tcO rfl _ _ g5 _ _ _ _ rfl HN1.out Tryd.underlying33 rfl HI.out) rfl ⟨HN2.out, 0, (k + 1), by omega, ?_, HN3.out, fun h => absurd h (by rw [HE4.out]; simp)⟩
            rw [HE4.out]; rfl
        · have dm : ((m : Int) == 0) = false := by simp [hm0]
          have dm2 : decide (m = 0) = false := by simp [hm0]
          by_cases hn0 : v = 0
          · have dn : ((v : Int) == 0) = true := by simp [hn0]
            have dn2 : decide (v = 0) = true := by simp [hn0]
            have HP := Lib.hid (show 0 < k ∧ (v < m ∨ decide (m = 0) ≠ decide (v = 0)) from ⟨h0, .inr (by rw [dm2, dn2]; decide)⟩)
            clear hm0 hn0
            have hcE : cE b k = (180, pl) := by rw [HCE3.out, if_pos HP.out]
            have hend := HEND.out (by rw [hcE]; simp)
            rw [hcE] at hend
            have HE4 := Lib.hid hend
            clear hcE hend
            go_quiet (fail)
            have HRD := Lib.hid (show RowC (w4.drewN nq) gh 13 31 (hcN b (k + 1) cs) from HR4.out)
            have HRFD := Lib.hid (show (w4.drewN nq).heap[g5]? = some (.cells #[.int .i64 0, .int .i64 0] 33 (0, 0)) from HRF4.out)
            have HKD := Lib.hid (HK4.out.drewN nq)
            have HSD := Lib.hid (show SlI .u8 (w4.drewN nq) a b.length c (nums b) from HSL4.out.keep (below_drewN (Below.refl _ _) nq))
            clear e4 e5 HR4 HRF4 HK4 HSL4
            generalize w4.drewN nq = w5 at HRD HRFD HKD HSD ⊢
            obtain ⟨n1, n2, n3⟩ := HFIN.out w5 (k + 1) (pl : Nat) 180 HKD.out HRFD.out
            have n3 := n3 HRD.out
            have HN1 := Lib.hid n1
            have HN2 := Lib.hid n2
            have HN3 := Lib.hid n3
            have c0 : w5.cell? ⟨g5, 0, none⟩ = some (.int .i64 0) := cellT0 HRFD.out
            have c1 : w5.cell? ⟨g5, 1, none⟩ = some (.int .i64 0) := cellT1 HRFD.out
            have f0 : w5.frozen? ⟨g5, 0, none⟩ = false := frozen_of_row w5 g5 0 _ _ HRFD.out
            have f1 : w5.frozen? ⟨g5, 1, none⟩ = false := frozen_of_row w5 g5 1 _ _ HRFD.out
            clear n1 n2 n3
            go_wp2_with fail
            refine bodyPost_ret (results_tcO rfl _ _ g5 _ _ _ _ rfl HN1.out Tryd.underlying33 rfl HI.out) rfl ⟨HN2.out, 0, (k + 1), by omega, ?_, HN3.out, fun h => absurd h (by rw [HE4.out]; simp)⟩
            rw [HE4.out]; rfl
          · have dn : ((v : Int) == 0) = false := by simp [hn0]
            have dn2 : decide (v = 0) = false := by simp [hn0]
            have HP := Lib.hid (show ¬ (0 < k ∧ (v < m ∨ decide (m = 0) ≠ decide (v = 0))) from fun ⟨_, h⟩ => by
              rcases h with h | h
              · exact hA h
              · rw [dm2, dn2] at h; exact h rfl)
            clear hm0 hn0
            have hcE : (cE b k).1 = 0 := by rw [HCE3.out, if_neg HP.out]
            have HG4 := Lib.hid (HGO.out hcE)
            clear hcE
            go_quiet (fail)
            have HRD := Lib.hid (show RowC (w4.drewN nq) gh 13 31 (hcN b (k + 1) cs) from HR4.out)
            have HRFD := Lib.hid (show (w4.drewN nq).heap[g5]? = some (.cells #[.int .i64 0, .int .i64 0] 33 (0, 0)) from HRF4.out)
            have HKD := Lib.hid (HK4.out.drewN nq)
            have HSD := Lib.hid (show SlI .u8 (w4.drewN nq) a b.length c (nums b) from HSL4.out.keep (below_drewN (Below.refl _ _) nq))
            clear e4 e5 HR4 HRF4 HK4 HSL4
            generalize w4.drewN nq = w5 at HRD HRFD HKD HSD ⊢
            go_wp2_with fail
            exact ⟨⟨k + 1, by rw [HP2.out]; have := HKK.out; go_num, by go_num, by omega, HG4.out, HRD.out, HRFD.out, HSD.out, HKD.out⟩, by simp [intOf]; omega⟩
      · have dk : decide ((0 : Int) < (k : Int)) = false := decide_eq_false (by omega)
        have dk' : decide (0 < k) = false := decide_eq_false h0
        have hcE : (cE b k).1 = 0 := by rw [HCE2.out, if_neg (fun h => h0 h.1)]
        have HG4 := Lib.hid (HGO.out hcE)
        clear hcE
        go_quiet (fail)
        have HRD := Lib.hid (show RowC (w4.drewN nq) gh 13 31 (hcN b (k + 1) cs) from HR4.out)
        have HRFD := Lib.hid (show (w4.drewN nq).heap[g5]? = some (.cells #[.int .i64 0, .int .i64 0] 33 (0, 0)) from HRF4.out)
        have HKD := Lib.hid (HK4.out.drewN nq)
        have HSD := Lib.hid (show SlI .u8 (w4.drewN nq) a b.length c (nums b) from HSL4.out.keep (below_drewN (Below.refl _ _) nq))
        clear e4 HR4 HRF4 HK4 HSL4
        generalize w4.drewN nq = w5 at HRD HRFD HKD HSD ⊢
        go_wp2_with fail
        exact ⟨⟨k + 1, by rw [HP2.out]; have := HKK.out; go_num, by go_num, by omega, HG4.out, HRD.out, HRFD.out, HSD.out, HKD.out⟩, by simp [intOf]; omega⟩
    · have hk44 : k = 4 := by omega
      subst hk44
      obtain ⟨n1, n2, n3⟩ := HFIN.out wr 4 0 0 HKP.out HRF.out
      have n3 := n3 HROW.out
      have HN1 := Lib.hid n1
      have HN2 := Lib.hid n2
      have HN3 := Lib.hid n3
      have c0 : wr.cell? ⟨g5, 0, none⟩ = some (.int .i64 0) := cellT0 HRF.out
      have c1 : wr.cell? ⟨g5, 1, none⟩ = some (.int .i64 0) := cellT1 HRF.out
      have f0 : wr.frozen? ⟨g5, 0, none⟩ = false := frozen_of_row wr g5 0 _ _ HRF.out
      have f1 : wr.frozen? ⟨g5, 1, none⟩ = false := frozen_of_row wr g5 1 _ _ HRF.out
      clear n1 n2 n3
      go_wp2_with fail
      refine bodyPost_ret (results_tcO rfl _ _ g5 _ _ _ _ rfl HN1.out Tryd.underlying33 rfl HI.out) rfl ⟨HN2.out, (tPl b 4 : Nat), 4, by omega, ?_, HN3.out, fun _ => ⟨rfl, rfl⟩⟩
      have h4 := (cn_ok HCN.out).1
      rw [h4]; rfl
end Go.Proofs.YtgajpekolamjbaaDoor
