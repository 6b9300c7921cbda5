/- DictWalks: Each is what Get says. -/
import Derived.Test.YtjgcmnppiaikcaaDlW
import Derived.Test.YtjgcmnppiaikcaaDlK
import Derived.Test.YtjgcmnppiaikcaaDlG
set_option linter.unusedVariables false
set_option linter.unusedSimpArgs false
namespace Go.Proofs.Ytjgcmnppiaikcaa
open Go.RowKit Go.Tk
theorem take_rng : ∀ (n s m : Nat), (List.range' s n).take m = List.range' s (min m n)
  | 0, s, m => by simp
  | n + 1, s, 0 => by simp
  | n + 1, s, m + 1 => by rw [List.range'_succ, List.take_succ_cons, take_rng n (s + 1) m, show min (m + 1) (n + 1) = min m n + 1 by omega, List.range'_succ]
/-- Texts in memory that rise: taken as texts that came in. -/
theorem ris_txt (L : List (List UInt8)) (hG : Good (risN L L.length)) : TxtOk (risN L L.length) := by
  intro s hs
  obtain ⟨i, hi, rfl⟩ := List.mem_iff_getElem.1 hs
  have := hG.sz i hi
  simp only [List.getD_eq_getElem?_getD, List.getElem?_eq_getElem hi, Option.getD_some] at this
  omega
set_option maxRecDepth 100000 in
set_option maxHeartbeats 4000000 in
theorem dictwalks_go (w : World) (a : Option Addr) (n c : Nat) (L : List (List UInt8)) (h : SlS w a n c L) (hnil : a = none → c = 0) (ht : TxtOk L) (hc8 : c ≤ 8796093022208) (fr : Int) (hfw : (Lit.int .i64 fr).wf = true) (most : Int) (hmw : (Lit.int .i64 most).wf = true) :
    Calls Try.prog 8 #[.slice a n c, .int .i64 fr, .int .i64 most] w fun e w' => e = .returned (.bool true) ∧ Below w.heap.size w w' := by
  have hfr := wf_i64 hfw
  have hmo := wf_i64 hmw
  clear hfw hmw
  have HS := Lib.hid h
  have HT := Lib.hid ht
  have HL := Lib.hid h.len
  clear h ht hnil
  cases hfw : fewB L with
  | false =>
    have HFW := Lib.hid hfw
    clear hfw
    go_enter Try.func8, Try.ntmps8
    go_wp2_with (first
      | (go_at_call 22; (with_reducible refine (works_calls w).mono ?_); rintro e w1 ⟨rfl, hb1⟩; (have HB1 := Lib.hid hb1); clear hb1)
      | (go_at_call 10; (with_reducible refine (few_calls _ _ _ _ _ (HS.out.keep HB1.out) HT.out).mono ?_); rintro e w2 ⟨rfl, hw2⟩; subst w2; rw [HFW.out]))
    go_ret
    exact ⟨rfl, HB1.out⟩
  | true =>
    have hf : tot L ≤ 2000000 := of_decide_eq_true hfw
    have hnL := tot_len L
    have hn2 : n ≤ 2000000 := by rw [← HL.out]; omega
    have hG := ris_Good hf
    have HX := Lib.hid (ris_txt L hG)
    have HG := Lib.hid hG
    have HFW := Lib.hid hfw
    clear hfw hf hnL hG
    go_enter Try.func8, Try.ntmps8
    go_upto_region 6 with (first
      | (go_at_call 22; (with_reducible refine (works_calls w).mono ?_); rintro e w1 ⟨rfl, hb1⟩; (have HB1 := Lib.hid hb1); clear hb1)
      | (go_at_call 10; (with_reducible refine (few_calls _ _ _ _ _ (HS.out.keep HB1.out) HT.out).mono ?_); rintro e w2 ⟨rfl, hw2⟩; subst w2; rw [HFW.out]))
    have hris := rising_calls w1 a n c L (HS.out.keep HB1.out) HT.out hn2
    rw [← HL.out] at hris
    obtain ⟨R, hR⟩ : ∃ R, R = risN L L.length := ⟨_, rfl⟩
    rw [← hR] at hris
    have hGR := HG.out
    have hXR := HX.out
    rw [← hR] at hGR hXR
    have HRIS := Lib.hid hris
    have HGR := Lib.hid hGR
    have HXR := Lib.hid hXR
    have hRl : R.length ≤ 2000000 := by have := tot_len R; have := hGR.tt; omega
    rw [HL.out] at HRIS
    clear hris hGR hXR HG HX hR
    go_upto_region 7 with (go_at_call 16; (with_reducible refine HRIS.out.mono ?_); rintro e w2 ⟨vr, rfl, how, hb2⟩; obtain ⟨ra, rc, rfl, hrs⟩ := OwL.toS how; (have HRS := Lib.hid hrs); (have HB2 := Lib.hid (HB1.out.trans (hb2.mono HB1.out.size))); clear how hrs hb2)
    have hmd := made_calls w2 ra R.length rc R HRS.out HXR.out HGR.out
    have HMD := Lib.hid hmd
    clear hmd
    go_upto_region 8 with (go_at_call 23; (with_reducible refine HMD.out.mono ?_); rintro e w3 ⟨gd, pa, pc, ea, ec, eb, vb, rfl, heb, hd, _, hb3⟩; (have HEB := Lib.hid heb); (have HD := Lib.hid hd); (have HRS3 := Lib.hid (HRS.out.keep hb3)); (have HB3 := Lib.hid (HB2.out.trans (hb3.mono HB2.out.size))); clear heb hd hb3)
    obtain ⟨M, hM⟩ : ∃ M : Nat, M = most.toNat := ⟨_, rfl⟩
    obtain ⟨f, hf⟩ : ∃ f : Nat, f = fr.toNat := ⟨_, rfl⟩
    have hMm : max (0 : Int) most = (M : Int) := by omega
    have hff : max (0 : Int) fr = (f : Int) := by omega
    have hMb : M ≤ 9223372036854775807 := by omega
    have hfb : f ≤ 9223372036854775807 := by omega
    obtain ⟨C, hC⟩ : ∃ C, C = min M (R.length - f) := ⟨_, rfl⟩
    have hLt : (eachF (packD R) (widthD R).toNat eb R.length fr).take M = (List.range' f C).map (entL R) := by
      rw [each_built HGR.out HEB.out, ← List.map_take, ← hf, hC, take_rng]
    have hwk := walked_calls w3 gd R.length _ pa pc _ ea ec eb HD.out fr hfr M hMb _ rfl
    rw [hLt] at hwk
    have hwk2 : Calls Try.prog 28 #[.pointer (some ⟨gd, 0, none⟩), .int .i64 fr, .int .i64 (M : Nat)] w3 fun e w' => ∃ ga gc, e = .returned (.tuple #[.slice ga C gc, .bool true]) ∧ (∀ j, j < C → ∃ g, ga = some ⟨g, 0, none⟩ ∧ g < w'.heap.size ∧ w'.cell? ⟨g, j * 2, none⟩ = some (.int .i64 ((f : Int) + (j : Int))) ∧ w'.cell? ⟨g, j * 2 + 1, none⟩ = some (.string ⟨(R.getD (f + j) []).toArray⟩)) ∧ Below w3.heap.size w3 w' := by
      refine hwk.mono ?_
      rintro e w' ⟨v, rfl, how, hb⟩
      obtain ⟨ga, gc, rfl⟩ := ownsRow_slice how
      have hlen : ((List.range' f C).map (entL R)).length = C := by simp
      refine ⟨ga, gc, by rw [hlen], fun j hj => ?_, hb⟩
      have hs := sawCs_at ((List.range' f C).map (entL R)) j (by rw [hlen]; exact hj)
      have hat : ((List.range' f C).map (entL R))[j]'(by rw [hlen]; exact hj) = (f + j, R.getD (f + j) []) := by simp [entL]
      rw [hat] at hs
      rcases how.2 with ⟨hv, h0⟩ | ⟨g, cap, cur, hv, h1, h2, h3⟩
      · rw [hlen] at h0; omega
      · simp at hv
        obtain ⟨rfl, rfl⟩ := hv
        have x1 := World.ownsRow.cells how (g := g) rfl
        refine ⟨g, rfl, lt_of_block h2, ?_, ?_⟩
        · have := x1 (j * 2) _ hs.1; rw [Addr.add_lit, Nat.zero_add] at this; rw [this]; simp
        · have := x1 (j * 2 + 1) _ hs.2; rw [Addr.add_lit, Nat.zero_add] at this; exact this
    have hgt : ∀ W, Below w3.heap.size w3 W → ∀ i : Nat, f + i < R.length → Calls Try.prog 25 #[.pointer (some ⟨gd, 0, none⟩), .int .i64 ((f : Int) + (i : Int))] W fun e w' => e = .returned (.tuple #[.string ⟨(R.getD (f + i) []).toArray⟩, .bool true]) ∧ Below W.heap.size W w' := fun W hW i hi => by
      have := get_calls W gd R.length _ pa pc _ ea ec eb (HD.out.keep hW) ((f : Int) + (i : Int)) ⟨by omega, by omega⟩
      rw [get_built HGR.out HEB.out] at this
      refine this.mono fun e w' ⟨h1, h2⟩ => ⟨?_, h2⟩
      rw [h1, if_pos ⟨by omega, by omega⟩, show ((f : Int) + (i : Int)).toNat = f + i by omega]
    have hCl : C ≤ R.length := by omega
    have hCf : ∀ i, i < C → f + i < R.length := fun i hi => by omega
    have hfin : ((C : Int) == max 0 (min (M : Int) ((R.length : Int) - (f : Int)))) = true := by
      have : (C : Int) = max 0 (min (M : Int) ((R.length : Int) - (f : Int))) := by omega
      rw [this]; simp
    have HWK := Lib.hid hwk2
    have HGT := Lib.hid hgt
    have HCF := Lib.hid hCf
    have HFIN := Lib.hid hfin
    have HC := Lib.hid hC
    clear hwk hwk2 hgt hCf hLt hM hf hC hfin
    go_upto_region 11 with (go_at_call 28; (with_reducible refine HWK.out.mono ?_); rintro e w4 ⟨ga, gc, rfl, hcl, hb4⟩; (have HCL := Lib.hid hcl); (have HB4 := Lib.hid hb4); clear hcl hb4)
    go_wp2
    go_loopw [14] (fun iv wr => ∃ (i : Nat), iv = .int .i64 (i : Nat) ∧ i ≤ C ∧ Below w4.heap.size w4 wr) (fun iv _ => C - (intOf iv).toNat)
    case atStart => exact ⟨0, rfl, Nat.zero_le _, Below.refl _ _⟩
    case round =>
      obtain ⟨i, rfl, hiC, hb⟩ := hrel
      have HBR := Lib.hid hb
      have HBW := Lib.hid (HB4.out.trans (hb.mono HB4.out.size))
      clear hb
      by_cases hlt : i < C
      · obtain ⟨g, rfl, hgl, y1, y2⟩ := HCL.out i hlt
        obtain ⟨sB, hsB⟩ : ∃ sB : ByteArray, sB = ⟨(R.getD (f + i) []).toArray⟩ := ⟨_, rfl⟩
        have hfi := HCF.out i hlt
        have hg := HGT.out wr HBW.out i hfi
        rw [← hsB] at hg y2
        have HG1 := Lib.hid hg
        have Y1 := Lib.hid y1
        have Y2 := Lib.hid y2
        have hfb2 : f < 2000000 := by omega
        clear hg hsB y1 y2
        go_upto_region 16 with (go_at_call 25; (with_reducible refine HG1.out.mono ?_); rintro e w5 ⟨rfl, hb5⟩; (have HB5 := Lib.hid hb5); clear hb5)
        have HX5 := Lib.hid (HBR.out.trans (HB5.out.mono HBR.out.size))
        have z1 := (HX5.out.cell (p := ⟨g, i * 2, none⟩) hgl).trans Y1.out
        have z2 := (HX5.out.cell (p := ⟨g, i * 2 + 1, none⟩) hgl).trans Y2.out
        go_wp2
        go_roundw
        case rel => exact ⟨i + 1, by go_num, by omega, HX5.out⟩
        case measure => simp [intOf]; omega
      obtain rfl : i = C := by omega
      clear hlt hiC
      have hfin := HFIN.out
      go_wp2
      go_ret
      exact ⟨by simp, HB3.out.trans (HBW.out.mono HB3.out.size)⟩
end Go.Proofs.Ytjgcmnppiaikcaa
