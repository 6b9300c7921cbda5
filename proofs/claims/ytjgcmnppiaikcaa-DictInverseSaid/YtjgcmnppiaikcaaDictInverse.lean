/- DictInverse: numbers and texts are each other's inverse. -/
import Derived.Test.YtjgcmnppiaikcaaDlW
set_option linter.unusedVariables false
set_option linter.unusedSimpArgs false
namespace Go.Proofs.Ytjgcmnppiaikcaa
open Go.RowKit Go.Tk
theorem binOp_string_gtr (t : TypeId) (a b : ByteArray) : binOp .gtr t (.string a) (.string b) = pure (.bool (Op.bytesLess b.toList a.toList)) := by
  have h := leq_bytes a.data.toList b.data.toList
  have e : (!Op.bytesLess a.toList b.toList && !a.toList == b.toList) = Op.bytesLess b.toList a.toList := by
    rw [Lib.toList_data, Lib.toList_data]; unfold ltB at h; rw [← Bool.not_or, h, Bool.not_not]
  simp [binOp, Op.stringOp, e]
theorem fnd_self {L : List (List UInt8)} (hG : Good L) {i : Nat} (hi : i < L.length) : fnd L (L.getD i []) = i := by
  have h := fnd_cut hG (L.getD i [])
  rcases Nat.lt_trichotomy (fnd L (L.getD i [])) i with h1 | h1 | h1
  · have h2 := h.2 (fnd L (L.getD i [])) (by omega)
    rw [decide_eq_false (by omega), good_lt hG h1 hi] at h2
    cases h2
  · exact h1
  · have h2 := h.2 i hi
    rw [decide_eq_true h1, ltB_self] at h2
    cases h2
theorem fnd_mono {L : List (List UInt8)} (hG : Good L) {s t : List UInt8} (h : ltB t s = false) : fnd L s ≤ fnd L t := by
  rcases Nat.lt_or_ge (fnd L t) (fnd L s) with h1 | h1
  · have hl := (fnd_cut hG s).1
    have h2 := (fnd_cut hG s).2 (fnd L t) (by omega)
    have h3 := (fnd_cut hG t).2 (fnd L t) (by omega)
    rw [decide_eq_true h1] at h2
    rw [decide_eq_false (by omega)] at h3
    -- R[n] < s, not R[n] < t, not t < s
    exfalso
    cases h4 : ltB t (L.getD (fnd L t) []) with
    | true => have := ltB_trans h4 h2; rw [h] at this; cases this
    | false =>
      have e := ltB_tri h3 h4
      rw [e, h] at h2; cases h2
  · exact h1
/-- Texts in memory that rise: taken as texts that came in. -/
theorem ris_txt (L : List (List UInt8)) (hG : Good (risN L L.length)) : TxtOk (risN L L.length) := by
  intro s hs
  obtain ⟨i, hi, rfl⟩ := List.mem_iff_getElem.1 hs
  have := hG.sz i hi
  simp only [List.getD_eq_getElem?_getD, List.getElem?_eq_getElem hi, Option.getD_some] at this
  omega
set_option maxRecDepth 100000 in
set_option maxHeartbeats 4000000 in
theorem dictinverse_go (w : World) (a : Option Addr) (n c : Nat) (L : List (List UInt8)) (h : SlS w a n c L) (hnil : a = none → c = 0) (ht : TxtOk L) (hc8 : c ≤ 8796093022208) (p : ByteArray) (hp : p.size ≤ 140737488351232) (q : ByteArray) (hq : q.size ≤ 140737488351232) :
    Calls Try.prog 5 #[.slice a n c, .string p, .string q] w fun e w' => e = .returned (.bool true) ∧ Below w.heap.size w w' := by
  have HS := Lib.hid h
  have HT := Lib.hid ht
  have HL := Lib.hid h.len
  clear h ht hnil
  cases hfw : fewB L with
  | false =>
    have HFW := Lib.hid hfw
    clear hfw
    go_enter Try.func5, Try.ntmps5
    go_wp2_with (first
      | (go_at_call 22; (with_reducible refine (works_calls w).mono ?_); rintro e w1 ⟨rfl, hb1⟩; (have HB1 := Lib.hid hb1); clear hb1)
      | (go_at_call 10; (with_reducible refine (few_calls _ _ _ _ _ (HS.out.keep HB1.out) HT.out).mono ?_); rintro e w2 ⟨rfl, hw2⟩; subst w2; rw [HFW.out]))
    go_ret
    exact ⟨rfl, HB1.out⟩
  | true =>
    have hf : tot L ≤ 2000000 := of_decide_eq_true hfw
    have hnL := tot_len L
    have hn2 : n ≤ 2000000 := by rw [← HL.out]; omega
    have hG := ris_Good hf
    have HX := Lib.hid (ris_txt L hG)
    have HG := Lib.hid hG
    have HFW := Lib.hid hfw
    clear hfw hf hnL hG
    go_enter Try.func5, Try.ntmps5
    go_upto_region 6 with (first
      | (go_at_call 22; (with_reducible refine (works_calls w).mono ?_); rintro e w1 ⟨rfl, hb1⟩; (have HB1 := Lib.hid hb1); clear hb1)
      | (go_at_call 10; (with_reducible refine (few_calls _ _ _ _ _ (HS.out.keep HB1.out) HT.out).mono ?_); rintro e w2 ⟨rfl, hw2⟩; subst w2; rw [HFW.out]))
    have hris := rising_calls w1 a n c L (HS.out.keep HB1.out) HT.out hn2
    rw [← HL.out] at hris
    obtain ⟨R, hR⟩ : ∃ R, R = risN L L.length := ⟨_, rfl⟩
    rw [← hR] at hris
    have hGR := HG.out
    have hXR := HX.out
    rw [← hR] at hGR hXR
    have HRIS := Lib.hid hris
    have HGR := Lib.hid hGR
    have HXR := Lib.hid hXR
    have hRl : R.length ≤ 2000000 := by have := tot_len R; have := hGR.tt; omega
    rw [HL.out] at HRIS
    clear hris hGR hXR HG HX hR
    go_upto_region 7 with (go_at_call 16; (with_reducible refine HRIS.out.mono ?_); rintro e w2 ⟨vr, rfl, how, hb2⟩; obtain ⟨ra, rc, rfl, hrs⟩ := OwL.toS how; (have HRS := Lib.hid hrs); (have HB2 := Lib.hid (HB1.out.trans (hb2.mono HB1.out.size))); clear how hrs hb2)
    have hmd := made_calls w2 ra R.length rc R HRS.out HXR.out HGR.out
    have HMD := Lib.hid hmd
    clear hmd
    go_upto_region 8 with (go_at_call 23; (with_reducible refine HMD.out.mono ?_); rintro e w3 ⟨gd, pa, pc, ea, ec, eb, vb, rfl, heb, hd, _, hb3⟩; (have HEB := Lib.hid heb); (have HD := Lib.hid hd); (have HRS3 := Lib.hid (HRS.out.keep hb3)); (have HB3 := Lib.hid (HB2.out.trans (hb3.mono HB2.out.size))); clear heb hd hb3)
    have hln : Calls Try.prog 24 #[.pointer (some ⟨gd, 0, none⟩)] w3 fun e w' => e = .returned (.int .i64 (R.length : Nat)) ∧ w3 = w' := dlen_calls w3 gd R.length _ pa pc _ ea ec _ HD.out
    have hfd : ∀ W, Below w3.heap.size w3 W → ∀ q : ByteArray, Calls Try.prog 26 #[.pointer (some ⟨gd, 0, none⟩), .string q] W fun e w' => e = .returned (.tuple #[.int .i64 (fnd R q.data.toList : Nat), .bool (decide (fnd R q.data.toList < R.length ∧ R.getD (fnd R q.data.toList) [] = q.data.toList))]) ∧ Below w3.heap.size w3 w' := fun W hW q => by
      have := find_calls W gd R.length _ pa pc _ ea ec eb (HD.out.keep hW) q
      rw [find_built HGR.out HEB.out] at this
      exact this.mono fun e w' ⟨h1, h2⟩ => ⟨h1, hW.trans (h2.mono hW.size)⟩
    have hgt : ∀ W, Below w3.heap.size w3 W → ∀ i : Nat, i ≤ R.length → Calls Try.prog 25 #[.pointer (some ⟨gd, 0, none⟩), .int .i64 (i : Nat)] W fun e w' => e = .returned (.tuple #[.string ⟨(if i < R.length then R.getD i [] else []).toArray⟩, .bool (decide (i < R.length))]) ∧ Below w3.heap.size w3 w' := fun W hW i hi => by
      have := get_calls W gd R.length _ pa pc _ ea ec eb (HD.out.keep hW) (i : Nat) ⟨by omega, by omega⟩
      rw [get_built HGR.out HEB.out] at this
      refine this.mono fun e w' ⟨h1, h2⟩ => ⟨?_, hW.trans (h2.mono hW.size)⟩
      rw [h1]
      by_cases h : i < R.length
      · rw [if_pos ⟨by omega, by omega⟩, if_pos h, decide_eq_true h, Int.toNat_natCast]
      · rw [if_neg (by omega), if_neg h, decide_eq_false h]
    have HLN := Lib.hid hln
    have HF := Lib.hid hfd
    have HG := Lib.hid hgt
    clear hln hfd hgt
    go_upto_region 10 with (go_at_call 24; (with_reducible refine HLN.out.mono ?_); rintro e w4 ⟨rfl, hw4⟩; subst w4)
    go_wp2
    go_loopw [11] (fun iv wr => ∃ (i : Nat), iv = .int .i64 (i : Nat) ∧ i ≤ R.length ∧ Below w3.heap.size w3 wr) (fun iv _ => R.length - (intOf iv).toNat)
    case atStart => exact ⟨0, rfl, Nat.zero_le _, Below.refl _ _⟩
    case round =>
      obtain ⟨i, rfl, hiR, hb⟩ := hrel
      have HBR := Lib.hid hb
      clear hb
      by_cases hlt : i < R.length
      · obtain ⟨tb, to, rfl, htc0⟩ := HRS3.out.cell i hlt
        have htl : tb < w3.heap.size := block_lt_of_cell htc0
        obtain ⟨tB, htB⟩ : ∃ tB : ByteArray, tB = ⟨(R.getD i []).toArray⟩ := ⟨_, rfl⟩
        have htd : tB.data.toList = R.getD i [] := by rw [htB]
        have hg := HG.out wr HBR.out i hiR
        rw [if_pos hlt, decide_eq_true hlt, ← htB] at hg
        have hf := fun W hW => HF.out W hW tB
        rw [htd, fnd_self HGR.out hlt, decide_eq_true ⟨hlt, rfl⟩] at hf
        rw [← htB] at htc0
        have HG1 := Lib.hid hg
        have HF1 := Lib.hid hf
        have HTC := Lib.hid htc0
        have htc := (HBR.out.cell (p := ⟨tb, to + i, none⟩) htl).trans htc0
        clear hg hf htB htd htc0
        go_upto_region 14 with (go_at_call 25; (with_reducible refine HG1.out.mono ?_); rintro e w5 ⟨rfl, hb5⟩; (have HB5 := Lib.hid hb5); clear hb5)
        have htc5 := (HB5.out.cell (p := ⟨tb, to + i, none⟩) htl).trans HTC.out
        go_upto_region 15 with (go_at_call 26; (with_reducible refine (HF1.out _ HB5.out).mono ?_); rintro e w6 ⟨rfl, hb6⟩; (have HB6 := Lib.hid hb6); clear hb6)
        have htc6 := (HB6.out.cell (p := ⟨tb, to + i, none⟩) htl).trans HTC.out
        go_wp2
        go_roundw
        case rel => exact ⟨i + 1, by go_num, by omega, HB6.out⟩
        case measure => simp [intOf]; omega
      obtain rfl : i = R.length := by omega
      clear hlt hiR
      obtain ⟨m, hm⟩ : ∃ m, m = fnd R p.data.toList := ⟨_, rfl⟩
      obtain ⟨k, hk⟩ : ∃ k, k = fnd R q.data.toList := ⟨_, rfl⟩
      have hmR : m ≤ R.length := by rw [hm]; exact (fnd_cut HGR.out _).1
      have hkR : k ≤ R.length := by rw [hk]; exact (fnd_cut HGR.out _).1
      obtain ⟨im, him⟩ : ∃ im, im = decide (m < R.length ∧ R.getD m [] = p.data.toList) := ⟨_, rfl⟩
      obtain ⟨ik, hik⟩ : ∃ ik, ik = decide (k < R.length ∧ R.getD k [] = q.data.toList) := ⟨_, rfl⟩
      have hf1 := HF.out wr HBR.out p
      rw [← hm, ← him] at hf1
      have hf2 := fun W hW => HF.out W hW q
      rw [← hk, ← hik] at hf2
      obtain ⟨xB, hxB⟩ : ∃ xB : ByteArray, xB = ⟨(if m < R.length then R.getD m [] else []).toArray⟩ := ⟨_, rfl⟩
      have hg1 := fun W hW => HG.out W hW m hmR
      rw [← hxB] at hg1
      have hone := fnd_cut HGR.out p.data.toList
      rw [← hm] at hone
      have hmk : ltB q.data.toList p.data.toList = false → m ≤ k := fun h => by rw [hm, hk]; exact fnd_mono HGR.out h
      have hkm : ltB p.data.toList q.data.toList = false → k ≤ m := fun h => by rw [hm, hk]; exact fnd_mono HGR.out h
      have heq : p.data.toList = q.data.toList → m = k ∧ im = ik := fun h => by
        have e : m = k := by rw [hm, hk, h]
        exact ⟨e, by rw [him, hik, h, e]⟩
      have HF1 := Lib.hid hf1
      have HF2 := Lib.hid hf2
      have HG1 := Lib.hid hg1
      have HONE := Lib.hid hone.2
      have HMK := Lib.hid hmk
      have HKM := Lib.hid hkm
      have HEQ := Lib.hid heq
      have HIM := Lib.hid him
      have HXB := Lib.hid hxB
      clear hf1 hf2 hg1 hone hmk hkm heq hm hk him hik hxB HF HG
      go_upto_region 18 with (go_at_call 26; (with_reducible refine HF1.out.mono ?_); rintro e w5 ⟨rfl, hb5⟩; (have HB5 := Lib.hid hb5); clear hb5)
      go_upto_region 19 with (go_at_call 26; (with_reducible refine (HF2.out _ HB5.out).mono ?_); rintro e w6 ⟨rfl, hb6⟩; (have HB6 := Lib.hid hb6); clear hb6)
      go_upto_region 20 with (go_at_call 25; (with_reducible refine (HG1.out _ HB6.out).mono ?_); rintro e w7 ⟨rfl, hb7⟩; (have HB7 := Lib.hid hb7); clear hb7)
      have HRS7 := Lib.hid (HRS3.out.keep HB7.out)
      have HBE := Lib.hid (HB3.out.trans (HB7.out.mono HB3.out.size))
      clear HF1 HF2 HG1 HRS3
      by_cases hmr : m < R.length
      · obtain ⟨tb, to, rfl, htc⟩ := HRS7.out.cell m hmr
        have d1 : decide ((m : Int) < (R.length : Int)) = true := decide_eq_true (by omega)
        have d1' : decide (m < R.length) = true := decide_eq_true hmr
        have hxe : xB = ⟨(R.getD m []).toArray⟩ := by rw [HXB.out, if_pos hmr]
        have hxd : xB.data.toList = R.getD m [] := by rw [hxe]
        rw [← hxe] at htc
        have hl1 := HONE.out m hmr
        rw [decide_eq_false (by omega), ← hxd] at hl1
        have b1 : Op.bytesLess xB.toList p.toList = false := by rw [Lib.toList_data, Lib.toList_data]; exact hl1
        obtain ⟨ex, hex⟩ : ∃ ex, ex = (xB.toList == p.toList) := ⟨_, rfl⟩
        have him2 : im = ex := by
          rw [HIM.out, hex, Lib.toList_data, Lib.toList_data, ← hxd]
          by_cases h : xB.data.toList = p.data.toList
          · rw [decide_eq_true ⟨hmr, h⟩, h]; simp
          · rw [decide_eq_false (fun x => h x.2)]; symm; rw [beq_eq_false_iff_ne]; exact h
        have hex' := hex.symm
        clear hxe hxd hl1 hex
        subst him2
        have hxx : (im != im) = false := by simp
        by_cases hm0 : m = 0
        · have y0 : decide ((0 : Int) < (m : Int)) = false := decide_eq_false (by omega)
          have y0' : decide (0 < m) = false := decide_eq_false (by omega)
          clear hm0
          go_upto_region 22 with fail
          cases hpq : ltB p.data.toList q.data.toList with
          | true =>
            have hqp := ltB_anti hpq
            have hmk := HMK.out hqp
            have l1 : Op.bytesLess p.toList q.toList = true := by rw [Lib.toList_data, Lib.toList_data]; exact hpq
            have l2 : Op.bytesLess q.toList p.toList = false := by rw [Lib.toList_data, Lib.toList_data]; exact hqp
            have g1 : ∀ X, (binOp .gtr 9 (.string p) (.string q)).run Try.prog X = .ok (.bool false) X := fun X => by rw [binOp_string_gtr, l2]; rfl
            have ne : (p.toList == q.toList) = false := by rw [Lib.toList_data, Lib.toList_data, beq_eq_false_iff_ne]; intro e; rw [e, ltB_self] at hpq; cases hpq
            have z1 : decide ((m : Int) ≤ (k : Int)) = true := decide_eq_true (by omega)
            have z1' : decide (m ≤ k) = true := decide_eq_true (by omega)
            clear hpq hqp
            go_wp2
            go_ret
            exact ⟨by simp, HBE.out⟩
          | false =>
            have hkm := HKM.out hpq
            have z2 : decide ((k : Int) ≤ (m : Int)) = true := decide_eq_true (by omega)
            have z2' : decide (k ≤ m) = true := decide_eq_true (by omega)
            cases hqp : ltB q.data.toList p.data.toList with
            | true =>
              have l1 : Op.bytesLess p.toList q.toList = false := by rw [Lib.toList_data, Lib.toList_data]; exact hpq
              have l2 : Op.bytesLess q.toList p.toList = true := by rw [Lib.toList_data, Lib.toList_data]; exact hqp
              have g1 : ∀ X, (binOp .gtr 9 (.string p) (.string q)).run Try.prog X = .ok (.bool true) X := fun X => by rw [binOp_string_gtr, l2]; rfl
              have ne : (p.toList == q.toList) = false := by rw [Lib.toList_data, Lib.toList_data, beq_eq_false_iff_ne]; intro e; rw [e, ltB_self] at hqp; cases hqp
              clear hpq hqp
              go_wp2
              go_ret
              exact ⟨by simp, HBE.out⟩
            | false =>
              have hmk := HMK.out hqp
              have e := ltB_tri hpq hqp
              obtain ⟨e1, e2⟩ := HEQ.out e
              have l1 : Op.bytesLess p.toList q.toList = false := by rw [Lib.toList_data, Lib.toList_data]; exact hpq
              have l2 : Op.bytesLess q.toList p.toList = false := by rw [Lib.toList_data, Lib.toList_data]; exact hqp
              have g1 : ∀ X, (binOp .gtr 9 (.string p) (.string q)).run Try.prog X = .ok (.bool false) X := fun X => by rw [binOp_string_gtr, l2]; rfl
              have ne : (p.toList == q.toList) = true := by rw [Lib.toList_data, Lib.toList_data, e]; simp
              have z1 : decide ((m : Int) ≤ (k : Int)) = true := decide_eq_true (by omega)
              have z1' : decide (m ≤ k) = true := decide_eq_true hmk
              have e3 : (im == ik) = true := by rw [e2]; simp
              clear hpq hqp e e1 e2
              go_wp2
              go_ret
              exact ⟨by simp, HBE.out⟩
        obtain ⟨m1, rfl⟩ : ∃ m1, m = m1 + 1 := ⟨m - 1, by omega⟩
        obtain ⟨b2, o2, he2, hc2⟩ := HRS7.out.cell m1 (by omega)
        obtain ⟨rfl, rfl⟩ : tb = b2 ∧ to = o2 := by simpa using he2
        obtain ⟨uB, huB⟩ : ∃ uB : ByteArray, uB = ⟨(R.getD m1 []).toArray⟩ := ⟨_, rfl⟩
        have hl2 := HONE.out m1 (by omega)
        rw [decide_eq_true (by omega)] at hl2
        have b2 : Op.bytesLess uB.toList p.toList = true := by rw [Lib.toList_data, Lib.toList_data, huB]; exact hl2
        rw [← huB] at hc2
        have g2 : ∀ X, (binOp .geq 9 (.string uB) (.string p)).run Try.prog X = .ok (.bool false) X := fun X => by rw [binOp_string_geq, b2]; rfl
        have hm9 : m1 < 2000000 := by omega
        clear hl2 huB hm0
        go_upto_region 22 with fail
        cases hpq : ltB p.data.toList q.data.toList with
        | true =>
          have hqp := ltB_anti hpq
          have hmk := HMK.out hqp
          have l1 : Op.bytesLess p.toList q.toList = true := by rw [Lib.toList_data, Lib.toList_data]; exact hpq
          have l2 : Op.bytesLess q.toList p.toList = false := by rw [Lib.toList_data, Lib.toList_data]; exact hqp
          have g1 : ∀ X, (binOp .gtr 9 (.string p) (.string q)).run Try.prog X = .ok (.bool false) X := fun X => by rw [binOp_string_gtr, l2]; rfl
          have ne : (p.toList == q.toList) = false := by rw [Lib.toList_data, Lib.toList_data, beq_eq_false_iff_ne]; intro e; rw [e, ltB_self] at hpq; cases hpq
          have z1 : decide ((m1 : Int) + 1 ≤ (k : Int)) = true := decide_eq_true (by omega)
          have z1' : decide (m1 + 1 ≤ k) = true := decide_eq_true (by omega)
          clear hpq hqp
          go_wp2
          go_ret
          exact ⟨by simp, HBE.out⟩
        | false =>
          have hkm := HKM.out hpq
          have z2 : decide ((k : Int) ≤ (m1 : Int) + 1) = true := decide_eq_true (by omega)
          have z2' : decide (k ≤ m1 + 1) = true := decide_eq_true (by omega)
          cases hqp : ltB q.data.toList p.data.toList with
          | true =>
            have l1 : Op.bytesLess p.toList q.toList = false := by rw [Lib.toList_data, Lib.toList_data]; exact hpq
            have l2 : Op.bytesLess q.toList p.toList = true := by rw [Lib.toList_data, Lib.toList_data]; exact hqp
            have g1 : ∀ X, (binOp .gtr 9 (.string p) (.string q)).run Try.prog X = .ok (.bool true) X := fun X => by rw [binOp_string_gtr, l2]; rfl
            have ne : (p.toList == q.toList) = false := by rw [Lib.toList_data, Lib.toList_data, beq_eq_false_iff_ne]; intro e; rw [e, ltB_self] at hqp; cases hqp
            clear hpq hqp
            go_wp2
            go_ret
            exact ⟨by simp, HBE.out⟩
          | false =>
            have hmk := HMK.out hqp
            have e := ltB_tri hpq hqp
            obtain ⟨e1, e2⟩ := HEQ.out e
            have l1 : Op.bytesLess p.toList q.toList = false := by rw [Lib.toList_data, Lib.toList_data]; exact hpq
            have l2 : Op.bytesLess q.toList p.toList = false := by rw [Lib.toList_data, Lib.toList_data]; exact hqp
            have g1 : ∀ X, (binOp .gtr 9 (.string p) (.string q)).run Try.prog X = .ok (.bool false) X := fun X => by rw [binOp_string_gtr, l2]; rfl
            have ne : (p.toList == q.toList) = true := by rw [Lib.toList_data, Lib.toList_data, e]; simp
            have z1 : decide ((m1 : Int) + 1 ≤ (k : Int)) = true := decide_eq_true (by omega)
            have z1' : decide (m1 + 1 ≤ k) = true := decide_eq_true hmk
            have e3 : (im == ik) = true := by rw [e2]; simp
            clear hpq hqp e e1 e2
            go_wp2
            go_ret
            exact ⟨by simp, HBE.out⟩
      have d1 : decide ((m : Int) < (R.length : Int)) = false := decide_eq_false (by omega)
      have d1' : decide (m < R.length) = false := decide_eq_false hmr
      obtain rfl : im = false := by rw [HIM.out]; exact decide_eq_false (fun x => hmr x.1)
      by_cases hm0 : m = 0
      · have y0 : decide ((0 : Int) < (m : Int)) = false := decide_eq_false (by omega)
        have y0' : decide (0 < m) = false := decide_eq_false (by omega)
        clear hm0
        go_upto_region 22 with fail
        cases hpq : ltB p.data.toList q.data.toList with
        | true =>
          have hqp := ltB_anti hpq
          have hmk := HMK.out hqp
          have l1 : Op.bytesLess p.toList q.toList = true := by rw [Lib.toList_data, Lib.toList_data]; exact hpq
          have l2 : Op.bytesLess q.toList p.toList = false := by rw [Lib.toList_data, Lib.toList_data]; exact hqp
          have g1 : ∀ X, (binOp .gtr 9 (.string p) (.string q)).run Try.prog X = .ok (.bool false) X := fun X => by rw [binOp_string_gtr, l2]; rfl
          have ne : (p.toList == q.toList) = false := by rw [Lib.toList_data, Lib.toList_data, beq_eq_false_iff_ne]; intro e; rw [e, ltB_self] at hpq; cases hpq
          have z1 : decide ((m : Int) ≤ (k : Int)) = true := decide_eq_true (by omega)
          have z1' : decide (m ≤ k) = true := decide_eq_true (by omega)
          clear hpq hqp
          go_wp2
          go_ret
          exact ⟨by simp, HBE.out⟩
        | false =>
          have hkm := HKM.out hpq
          have z2 : decide ((k : Int) ≤ (m : Int)) = true := decide_eq_true (by omega)
          have z2' : decide (k ≤ m) = true := decide_eq_true (by omega)
          cases hqp : ltB q.data.toList p.data.toList with
          | true =>
            have l1 : Op.bytesLess p.toList q.toList = false := by rw [Lib.toList_data, Lib.toList_data]; exact hpq
            have l2 : Op.bytesLess q.toList p.toList = true := by rw [Lib.toList_data, Lib.toList_data]; exact hqp
            have g1 : ∀ X, (binOp .gtr 9 (.string p) (.string q)).run Try.prog X = .ok (.bool true) X := fun X => by rw [binOp_string_gtr, l2]; rfl
            have ne : (p.toList == q.toList) = false := by rw [Lib.toList_data, Lib.toList_data, beq_eq_false_iff_ne]; intro e; rw [e, ltB_self] at hqp; cases hqp
            clear hpq hqp
            go_wp2
            go_ret
            exact ⟨by simp, HBE.out⟩
          | false =>
            have hmk := HMK.out hqp
            have e := ltB_tri hpq hqp
            obtain ⟨e1, e2⟩ := HEQ.out e
            have l1 : Op.bytesLess p.toList q.toList = false := by rw [Lib.toList_data, Lib.toList_data]; exact hpq
            have l2 : Op.bytesLess q.toList p.toList = false := by rw [Lib.toList_data, Lib.toList_data]; exact hqp
            have g1 : ∀ X, (binOp .gtr 9 (.string p) (.string q)).run Try.prog X = .ok (.bool false) X := fun X => by rw [binOp_string_gtr, l2]; rfl
            have ne : (p.toList == q.toList) = true := by rw [Lib.toList_data, Lib.toList_data, e]; simp
            have z1 : decide ((m : Int) ≤ (k : Int)) = true := decide_eq_true (by omega)
            have z1' : decide (m ≤ k) = true := decide_eq_true hmk
            have e3 : (false == ik) = true := by rw [e2]; simp
            clear hpq hqp e e1 e2
            go_wp2
            go_ret
            exact ⟨by simp, HBE.out⟩
      obtain ⟨m1, rfl⟩ : ∃ m1, m = m1 + 1 := ⟨m - 1, by omega⟩
      obtain ⟨tb, to, rfl, hc2⟩ := HRS7.out.cell m1 (by omega)
      obtain ⟨uB, huB⟩ : ∃ uB : ByteArray, uB = ⟨(R.getD m1 []).toArray⟩ := ⟨_, rfl⟩
      have hl2 := HONE.out m1 (by omega)
      rw [decide_eq_true (by omega)] at hl2
      have b2 : Op.bytesLess uB.toList p.toList = true := by rw [Lib.toList_data, Lib.toList_data, huB]; exact hl2
      rw [← huB] at hc2
      have g2 : ∀ X, (binOp .geq 9 (.string uB) (.string p)).run Try.prog X = .ok (.bool false) X := fun X => by rw [binOp_string_geq, b2]; rfl
      have hm9 : m1 < 2000000 := by omega
      clear hl2 huB hm0
      go_upto_region 22 with fail
      cases hpq : ltB p.data.toList q.data.toList with
      | true =>
        have hqp := ltB_anti hpq
        have hmk := HMK.out hqp
        have l1 : Op.bytesLess p.toList q.toList = true := by rw [Lib.toList_data, Lib.toList_data]; exact hpq
        have l2 : Op.bytesLess q.toList p.toList = false := by rw [Lib.toList_data, Lib.toList_data]; exact hqp
        have g1 : ∀ X, (binOp .gtr 9 (.string p) (.string q)).run Try.prog X = .ok (.bool false) X := fun X => by rw [binOp_string_gtr, l2]; rfl
        have ne : (p.toList == q.toList) = false := by rw [Lib.toList_data, Lib.toList_data, beq_eq_false_iff_ne]; intro e; rw [e, ltB_self] at hpq; cases hpq
        have z1 : decide ((m1 : Int) + 1 ≤ (k : Int)) = true := decide_eq_true (by omega)
        have z1' : decide (m1 + 1 ≤ k) = true := decide_eq_true (by omega)
        clear hpq hqp
        go_wp2
        go_ret
        exact ⟨by simp, HBE.out⟩
      | false =>
        have hkm := HKM.out hpq
        have z2 : decide ((k : Int) ≤ (m1 : Int) + 1) = true := decide_eq_true (by omega)
        have z2' : decide (k ≤ m1 + 1) = true := decide_eq_true (by omega)
        cases hqp : ltB q.data.toList p.data.toList with
        | true =>
          have l1 : Op.bytesLess p.toList q.toList = false := by rw [Lib.toList_data, Lib.toList_data]; exact hpq
          have l2 : Op.bytesLess q.toList p.toList = true := by rw [Lib.toList_data, Lib.toList_data]; exact hqp
          have g1 : ∀ X, (binOp .gtr 9 (.string p) (.string q)).run Try.prog X = .ok (.bool true) X := fun X => by rw [binOp_string_gtr, l2]; rfl
          have ne : (p.toList == q.toList) = false := by rw [Lib.toList_data, Lib.toList_data, beq_eq_false_iff_ne]; intro e; rw [e, ltB_self] at hqp; cases hqp
          clear hpq hqp
          go_wp2
          go_ret
          exact ⟨by simp, HBE.out⟩
        | false =>
          have hmk := HMK.out hqp
          have e := ltB_tri hpq hqp
          obtain ⟨e1, e2⟩ := HEQ.out e
          have l1 : Op.bytesLess p.toList q.toList = false := by rw [Lib.toList_data, Lib.toList_data]; exact hpq
          have l2 : Op.bytesLess q.toList p.toList = false := by rw [Lib.toList_data, Lib.toList_data]; exact hqp
          have g1 : ∀ X, (binOp .gtr 9 (.string p) (.string q)).run Try.prog X = .ok (.bool false) X := fun X => by rw [binOp_string_gtr, l2]; rfl
          have ne : (p.toList == q.toList) = true := by rw [Lib.toList_data, Lib.toList_data, e]; simp
          have z1 : decide ((m1 : Int) + 1 ≤ (k : Int)) = true := decide_eq_true (by omega)
          have z1' : decide (m1 + 1 ≤ k) = true := decide_eq_true hmk
          have e3 : (false == ik) = true := by rw [e2]; simp
          clear hpq hqp e e1 e2
          go_wp2
          go_ret
          exact ⟨by simp, HBE.out⟩
end Go.Proofs.Ytjgcmnppiaikcaa
