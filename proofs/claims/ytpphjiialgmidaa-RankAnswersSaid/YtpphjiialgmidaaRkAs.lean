/- asked: is the answer the document's? -/
import Derived.Test.YtpphjiialgmidaaRkRb
set_option linter.unusedVariables false
set_option linter.unusedSimpArgs false
namespace Go.Proofs.Ytpphjiialgmidaa
open Go.RowKit Go.Tk
theorem quiet_k {P : Program} {w : World} {f : FuncId} {args : Array Value} {n : Nat} {v : Value} (h : Calls P f args (w.drewN n) fun e w' => e = .returned v ∧ w.drewN n = w') : Calls P f args (w.drewN n) fun e w'' => e = .returned v ∧ ∃ m, w'' = w.drewN m :=
  h.mono fun _ _ ⟨he, hk⟩ => ⟨he, n, hk.symm⟩
theorem ask_fields : True := trivial
set_option maxRecDepth 100000 in
set_option maxHeartbeats 8000000 in
theorem asked_calls (w : World) (gv : Nat) (d : List UInt8) (N : Nat) (hv : Vec w gv d N) (ad : Option Addr) (n cd : Nat) (hs : SlI .u8 w ad n cd (nums d)) (kd q most : Int) (hq : -9223372036854775808 ≤ q ∧ q ≤ 9223372036854775807) (hm : -9223372036854775808 ≤ most ∧ most ≤ 9223372036854775807) :
    Calls Try.prog 23 #[.pointer (some ⟨gv, 0, none⟩), .slice ad n cd, .int .i64 (N : Nat), .agg #[.int .i64 kd, .int .i64 q, .int .i64 most]] w fun e w' => e = .returned (.bool true) ∧ Below w.heap.size w w' := by
  have hN : N ≤ 67108864 := by obtain ⟨a, c, h, _⟩ := hv; exact h.nN
  have hl : d.length = (N + 7) / 8 := by obtain ⟨a, c, _, h⟩ := hv; exact h
  have hlN : N ≤ 8 * d.length := by omega
  have hrow : (w.alloc (.cells #[.int .i64 kd, .int .i64 q, .int .i64 most] 48)).heap[w.heap.size]? = some (.cells #[.int .i64 kd, .int .i64 q, .int .i64 most] 48 (0, 0)) := heap_alloc_new w _
  have hb0 : Below w.heap.size w (w.alloc (.cells #[.int .i64 kd, .int .i64 q, .int .i64 most] 48)) := (Below.refl _ _).alloc (Nat.le_refl _) _
  have hv1 := hv.below hb0
  have hs1 := hs.keep hb0
  have HV := Lib.hid hv1
  have HS := Lib.hid hs1
  have HB := Lib.hid hb0
  have HROW := Lib.hid hrow
  have HL := Lib.hid hl
  clear hv hs hv1 hs1 hb0 hrow hl
  go_enter Try.func23, Try.ntmps23
  go_upto_region 2 with fail
  have hrow := HROW.out
  generalize hw1 : w.alloc (.cells #[.int .i64 kd, .int .i64 q, .int .i64 most] 48) = w1 at hrow HV HS HB ⊢
  clear hw1 HROW
  generalize hgk : w.heap.size = gk at hrow ⊢
  clear hgk
  have k1 : w1.cell? ⟨gk, 1, none⟩ = some (.int .i64 q) := cell_of_row w1 gk 1 _ _ _ hrow
  have k2 : w1.cell? ⟨gk, 2, none⟩ = some (.int .i64 most) := cell_of_row w1 gk 2 _ _ _ hrow
  clear hrow
  by_cases k0 : kd = 0
  · subst k0
    have HLN := Lib.hid (fun w' => drew_ex (w0 := w1) (w := w') (fun k => (vlen (HV.out.drewN k)).mono fun e w'' ⟨h1, h2⟩ => (show _ ∧ ∃ q, w'' = (w1.drewN k).drewN q from ⟨h1, 0, h2⟩)))
    have HON := Lib.hid (fun w' => drew_ex (w0 := w1) (w := w') (fun k => (vones (HV.out.drewN k)).mono fun e w'' ⟨h1, h2⟩ => (show _ ∧ ∃ q, w'' = (w1.drewN k).drewN q from ⟨h1, 0, h2⟩)))
    have HCT := Lib.hid (fun w' => drew_ex (w0 := w1) (w := w') (fun k => (rcount_calls (w1.drewN k) ad n cd d N (HS.out.drewN k) hN hlN).mono fun e w'' ⟨h1, h2⟩ => (show _ ∧ ∃ q, w'' = (w1.drewN k).drewN q from ⟨h1, 0, h2.symm⟩)))
    generalize cntB d N = C at HON HCT
    have HDW : ∃ k, w1 = w1.drewN k := ⟨0, rfl⟩
    go_wp2_with (first
      | (go_at_call 26; (with_reducible refine (HLN.out _ HDW).mono ?_); rintro e wz ⟨rfl, hd⟩; (have HDW := hd); clear hd)
      | (go_at_call 32; (with_reducible refine (HON.out _ HDW).mono ?_); rintro e wz ⟨rfl, hd⟩; (have HDW := hd); clear hd)
      | (go_at_call 51; (with_reducible refine (HCT.out _ HDW).mono ?_); rintro e wz ⟨rfl, hd⟩; (have HDW := hd); clear hd))
    go_ret
    obtain ⟨k, rfl⟩ := HDW
    exact ⟨rfl, below_drewN HB.out k⟩
  have z0 : (kd == 0) = false := by simp [k0]
  by_cases k1' : kd = 1
  · subst k1'
    have hbi := fun (w0 : World) (hv : Vec w0 gv d N) => vbit hv q hq
    by_cases h0 : q < 0
    · have hb : bitW d N q = false := by unfold bitW; rw [decide_eq_false (show ¬ 0 ≤ q by omega)]; rfl
      rw [hb] at hbi
      have HBI := Lib.hid hbi
      clear hbi hb
      have hd0 : decide (0 ≤ q) = false := decide_eq_false (by omega)
      go_wp2_with fail
      go_quiet ((go_at_call 29; (with_reducible exact quiet_dr (HBI.out _ (HV.out.drewN _)))))
      go_wp2
      go_ret
      exact ⟨rfl, below_drewN HB.out nq⟩
    by_cases h1 : (N : Int) ≤ q
    · have hb : bitW d N q = false := by unfold bitW; rw [decide_eq_false (show ¬ q < N by omega)]; simp
      rw [hb] at hbi
      have HBI := Lib.hid hbi
      clear hbi hb
      have hd0 : decide (0 ≤ q) = true := decide_eq_true (by omega)
      have hd1 : decide (q < (N : Int)) = false := decide_eq_false (by omega)
      go_wp2_with fail
      go_quiet ((go_at_call 29; (with_reducible exact quiet_dr (HBI.out _ (HV.out.drewN _)))))
      go_wp2
      go_ret
      exact ⟨rfl, below_drewN HB.out nq⟩
    · have hb : bitW d N q = btB d q.toNat := by unfold bitW; rw [decide_eq_true (show 0 ≤ q by omega), decide_eq_true (show q < N by omega)]; rfl
      rw [hb] at hbi
      have hrb := fun k => bit_calls (w1.drewN k) ad n cd d q.toNat (HS.out.drewN k) (by omega) (by omega)
      rw [show ((q.toNat : Nat) : Int) = q by omega] at hrb
      generalize btB d q.toNat = B at hbi hrb
      have HBI := Lib.hid hbi
      have HRB := Lib.hid hrb
      clear hbi hb hrb
      go_wp2_with fail
      go_quiet (first
        | (go_at_call 29; (with_reducible exact quiet_dr (HBI.out _ (HV.out.drewN _))))
        | (go_at_call 36; (with_reducible exact quiet_k (HRB.out _))))
      go_wp2
      go_ret
      exact ⟨rfl, below_drewN HB.out nq⟩
  have z1 : (kd == 1) = false := by simp [k1']
  by_cases k2' : kd = 2
  · subst k2'
    have ha := fun (w0 : World) (hv : Vec w0 gv d N) => vrank hv q hq
    have hr := fun k => rrank_calls (w1.drewN k) ad n cd d N (HS.out.drewN k) hN hlN q
    generalize cntB d (min q.toNat N) = C at ha hr
    have HA := Lib.hid ha
    have HR := Lib.hid hr
    clear ha hr
    go_wp2_with fail
    go_quiet (first
      | (go_at_call 27; (with_reducible exact quiet_dr (HA.out _ (HV.out.drewN _))))
      | (go_at_call 52; (with_reducible exact quiet_k (HR.out _))))
    go_wp2
    go_ret
    exact ⟨rfl, below_drewN HB.out nq⟩
  have z2 : (kd == 2) = false := by simp [k2']
  by_cases k3' : kd = 3
  · subst k3'
    have ha := fun (w0 : World) (hv : Vec w0 gv d N) => vrank0 hv q hq
    have hr := fun k => rrank0_calls (w1.drewN k) ad n cd d N (HS.out.drewN k) hN hlN q
    generalize min q.toNat N - cntB d (min q.toNat N) = C at ha hr
    have HA := Lib.hid ha
    have HR := Lib.hid hr
    clear ha hr
    go_wp2_with fail
    go_quiet (first
      | (go_at_call 28; (with_reducible exact quiet_dr (HA.out _ (HV.out.drewN _))))
      | (go_at_call 53; (with_reducible exact quiet_k (HR.out _))))
    go_wp2
    go_ret
    exact ⟨rfl, below_drewN HB.out nq⟩
  have z3 : (kd == 3) = false := by simp [k3']
  by_cases k4' : kd = 4
  · subst k4'
    have ha := fun (w0 : World) (hv : Vec w0 gv d N) => vsel hv q hq
    have hr := fun k => (rselect_calls (w1.drewN k) ad n cd d N (HS.out.drewN k) hN hlN q hq true).mono (fun e w' ⟨r, h1, h2, h3⟩ => (show e = Ending.returned (.int .i64 (selW d N q)) ∧ w1.drewN k = w' from ⟨by rw [h1, selR_one HL.out hN h2], h3⟩))
    generalize selW d N q = C at ha hr
    have HA := Lib.hid ha
    have HR := Lib.hid hr
    clear ha hr
    go_wp2_with fail
    go_quiet (first
      | (go_at_call 30; (with_reducible exact quiet_dr (HA.out _ (HV.out.drewN _))))
      | (go_at_call 54; (with_reducible exact quiet_k (HR.out _))))
    go_wp2
    go_ret
    exact ⟨rfl, below_drewN HB.out nq⟩
  have z4 : (kd == 4) = false := by simp [k4']
  by_cases k5' : kd = 5
  · subst k5'
    have ha := fun (w0 : World) (hv : Vec w0 gv d N) => vsel0 hv q hq
    have hr := fun k => (rselect_calls (w1.drewN k) ad n cd d N (HS.out.drewN k) hN hlN q hq false).mono (fun e w' ⟨r, h1, h2, h3⟩ => (show e = Ending.returned (.int .i64 (sel0W d N q)) ∧ w1.drewN k = w' from ⟨by rw [h1, selR_nil HL.out hN h2], h3⟩))
    generalize sel0W d N q = C at ha hr
    have HA := Lib.hid ha
    have HR := Lib.hid hr
    clear ha hr
    go_wp2_with fail
    go_quiet (first
      | (go_at_call 31; (with_reducible exact quiet_dr (HA.out _ (HV.out.drewN _))))
      | (go_at_call 54; (with_reducible exact quiet_k (HR.out _))))
    go_wp2
    go_ret
    exact ⟨rfl, below_drewN HB.out nq⟩
  have z5 : (kd == 5) = false := by simp [k5']
  by_cases k6' : kd = 6
  · subst k6'
    obtain ⟨M, hM⟩ : ∃ M : Nat, (M : Int) = max 0 most := ⟨(max 0 most).toNat, by omega⟩
    have hMb : M ≤ 9223372036854775807 := by omega
    have HM := Lib.hid hM
    clear hM
    obtain ⟨L, hL⟩ : ∃ L, L = eachL (btB d) N q.toNat := ⟨_, rfl⟩
    have hLl : L.length ≤ 67108864 := by rw [hL]; have := each_len (btB d) N q.toNat; omega
    have hwk : Calls Try.prog 33 #[.pointer (some ⟨gv, 0, none⟩), .int .i64 q, .int .i64 (M : Nat)] w1 fun e w' => ∃ v, e = .returned (.tuple #[v, .bool true]) ∧ w'.ownsRow w1.heap.size 3 1 v (L.take M).length (intCs (L.take M)) ∧ Below w1.heap.size w1 w' := by
      obtain ⟨av, cv, hv, _⟩ := HV.out
      exact walked_calls w1 gv av cv _ _ _ hv q hq M hMb L (by rw [each_wh HL.out]; exact hL)
    have hea := fun w' h => reach_calls w' ad n cd d N h hN hlN q hq
    rw [← hL] at hea
    have HWK := Lib.hid hwk
    have HEA := Lib.hid hea
    obtain ⟨R, hR⟩ : ∃ R, R = L.take M := ⟨_, rfl⟩
    rw [← hR] at HWK
    have HR := Lib.hid hR
    clear hwk hea hL hR
    go_upto_region 16 with fail
    rw [← HM.out]
    go_upto_region 18 with (first
      | (go_at_call 33; (with_reducible refine HWK.out.mono ?_); rintro e w2 ⟨v, rfl, hrow, hb⟩; (obtain ⟨ar, cr, rfl, hsl⟩ := walked_rows hrow); (have HSL := Lib.hid hsl); (have HB2 := Lib.hid (HB.out.trans (hb.mono HB.out.size))); (have HS2 := Lib.hid (HS.out.keep hb)); (have j1 : w2.cell? ⟨gk, 1, none⟩ = some (.int .i64 q) := (hb.cell (p := ⟨gk, 1, none⟩) (block_lt_of_cell k1)).trans k1); clear hrow hb hsl)
      | (go_at_call 55; (with_reducible refine (HEA.out _ HS2.out).mono ?_); rintro e w3 ⟨v3, rfl, how, hb⟩; (obtain ⟨a3, c3, hv3, sl3, _⟩ := how.sl); rw [intZs_len] at hv3 sl3; subst hv3; (have HS3 := Lib.hid sl3); (have HR3 := Lib.hid (HSL.out.keep hb)); (have HB3 := Lib.hid (HB2.out.trans (hb.mono HB2.out.size))); clear how hb sl3))
    clear HWK HEA HSL HS2 HB2 j1 k1 k2
    have hle3 := HS3.out.le
    have hmx3 := HS3.out.max
    by_cases hgt : M < L.length
    · have hpre := HS3.out.pre M (by omega)
      rw [intZs_take, ← HR.out] at hpre
      have hsm := sameI2_calls w3 _ _ _ _ _ _ _ _ HR3.out hpre
      rw [sameB_yes rfl] at hsm
      have HSM := Lib.hid hsm
      clear hpre hsm
      go_wp2_with (go_at_call 56; (with_reducible refine HSM.out.mono ?_); rintro e w4 ⟨rfl, k, rfl⟩)
      go_ret
      exact ⟨rfl, below_drewN HB3.out k⟩
    · have hRL : R = L := by rw [HR.out, List.take_of_length_le (by omega)]
      have h3 := HR3.out
      have hz : intZs R = intZs L := by rw [hRL]
      rw [hz] at h3
      have hsm := sameI2_calls w3 _ _ _ _ _ _ _ _ h3 HS3.out
      rw [sameB_yes rfl] at hsm
      have HSM := Lib.hid hsm
      clear hsm h3 hz hRL
      go_wp2_with (go_at_call 56; (with_reducible refine HSM.out.mono ?_); rintro e w4 ⟨rfl, k, rfl⟩)
      go_ret
      exact ⟨rfl, below_drewN HB3.out k⟩
  have z6 : (kd == 6) = false := by simp [k6']
  go_wp2
  go_ret
  exact ⟨rfl, HB.out⟩
end Go.Proofs.Ytpphjiialgmidaa
