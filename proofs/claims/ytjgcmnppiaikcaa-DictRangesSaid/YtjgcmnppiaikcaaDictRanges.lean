/- DictRanges: what begins with a prefix lies between the two numbers of its Range. -/
import Derived.Test.YtjgcmnppiaikcaaDlW
set_option linter.unusedVariables false
set_option linter.unusedSimpArgs false
namespace Go.Proofs.Ytjgcmnppiaikcaa
open Go.RowKit Go.Tk
theorem pre_not_lt : ∀ {p x : List UInt8}, p.isPrefixOf x = true → ltB x p = false
  | [], x, _ => ltB_nil x
  | a :: p, [], h => by cases h
  | a :: p, b :: x, h => by
    simp only [List.isPrefixOf, Bool.and_eq_true, beq_iff_eq] at h
    obtain ⟨rfl, h⟩ := h
    rw [ltB_cons, pre_not_lt h]
    simp [UInt8.lt_irrefl]
theorem pre_range {L : List (List UInt8)} (hG : Good L) (s : List UInt8) (i : Nat) (hi : i < L.length) : preB s (L.getD i []) = decide (fnd L s ≤ i ∧ i < fnd2 L s) := by
  have h1 := (fnd_cut hG s).2 i hi
  have h2 := (fnd2_cut hG s).2 i hi
  rw [h1] at h2
  cases hp : preB s (L.getD i []) with
  | true =>
    have h3 := pre_not_lt (p := s) (x := L.getD i []) hp
    rw [h3] at h1
    rw [hp, Bool.or_true] at h2
    have a1 := of_decide_eq_false h1.symm
    have a2 := of_decide_eq_true h2.symm
    rw [decide_eq_true ⟨by omega, a2⟩]
  | false =>
    rw [hp, Bool.or_false] at h2
    symm
    apply decide_eq_false
    rintro ⟨a1, a2⟩
    rw [decide_eq_true a2, decide_eq_false (by omega)] at h2
    cases h2
theorem fnd_nil (L : List (List UInt8)) : fnd L [] = 0 ∧ fnd2 L [] = L.length := by
  constructor
  · unfold fnd; cases L with
    | nil => rfl
    | cons x L => rw [List.takeWhile_cons, ltB_nil]; rfl
  · unfold fnd2
    have : ∀ M : List (List UInt8), (M.takeWhile fun t => ltB t [] || preB [] t) = M := by
      intro M
      induction M with
      | nil => rfl
      | cons x M ih => rw [List.takeWhile_cons, show (ltB x [] || preB [] x) = true by rw [ltB_nil]; rfl, if_pos rfl, ih]
    rw [this]
/-- Texts in memory that rise: taken as texts that came in. -/
theorem ris_txt (L : List (List UInt8)) (hG : Good (risN L L.length)) : TxtOk (risN L L.length) := by
  intro s hs
  obtain ⟨i, hi, rfl⟩ := List.mem_iff_getElem.1 hs
  have := hG.sz i hi
  simp only [List.getD_eq_getElem?_getD, List.getElem?_eq_getElem hi, Option.getD_some] at this
  omega
theorem pre_cut (t p : ByteArray) (h : p.size ≤ t.size) : ((t.extract 0 p.size).toList == p.toList) = preB p.data.toList t.data.toList := by
  rw [Lib.toList_data, Lib.toList_data, extract_takeD]
  simp only
  unfold preB Lib.hasPrefix
  rw [Lib.size_eq] at h ⊢
  rw [Lib.size_eq] at h
  generalize t.data.toList = x at h ⊢
  generalize p.data.toList = y at h ⊢
  induction y generalizing x with
  | nil => simp
  | cons a y ih =>
    cases x with
    | nil => simp at h
    | cons b x =>
      have := ih x (by simpa using h)
      simp only [List.length_cons, List.take_succ_cons, List.isPrefixOf]
      rw [← this]
      by_cases e : b = a
      · subst e; simp
      · have e2 : (a == b) = false := by simp; exact fun h => e h.symm
        rw [e2]; simp [e]
theorem pre_short {t p : ByteArray} (h : ¬ p.size ≤ t.size) : preB p.data.toList t.data.toList = false := by
  cases hh : preB p.data.toList t.data.toList with
  | false => rfl
  | true =>
    have := (List.isPrefixOf_iff_prefix.1 hh).length_le
    rw [← Lib.size_eq, ← Lib.size_eq] at this
    exact absurd this h
set_option maxRecDepth 100000 in
set_option maxHeartbeats 4000000 in
theorem dictranges_go (w : World) (a : Option Addr) (n c : Nat) (L : List (List UInt8)) (h : SlS w a n c L) (hnil : a = none → c = 0) (ht : TxtOk L) (hc8 : c ≤ 8796093022208) (p : ByteArray) (hp : p.size ≤ 140737488351232) :
    Calls Try.prog 6 #[.slice a n c, .string p] w fun e w' => e = .returned (.bool true) ∧ Below w.heap.size w w' := by
  have HS := Lib.hid h
  have HT := Lib.hid ht
  have HL := Lib.hid h.len
  clear h ht hnil
  cases hfw : fewB L with
  | false =>
    have HFW := Lib.hid hfw
    clear hfw
    go_enter Try.func6, Try.ntmps6
    go_wp2_with (first
      | (go_at_call 22; (with_reducible refine (works_calls w).mono ?_); rintro e w1 ⟨rfl, hb1⟩; (have HB1 := Lib.hid hb1); clear hb1)
      | (go_at_call 10; (with_reducible refine (few_calls _ _ _ _ _ (HS.out.keep HB1.out) HT.out).mono ?_); rintro e w2 ⟨rfl, hw2⟩; subst w2; rw [HFW.out]))
    go_ret
    exact ⟨rfl, HB1.out⟩
  | true =>
    have hf : tot L ≤ 2000000 := of_decide_eq_true hfw
    have hnL := tot_len L
    have hn2 : n ≤ 2000000 := by rw [← HL.out]; omega
    have hG := ris_Good hf
    have HX := Lib.hid (ris_txt L hG)
    have HG := Lib.hid hG
    have HFW := Lib.hid hfw
    clear hfw hf hnL hG
    go_enter Try.func6, Try.ntmps6
    go_upto_region 6 with (first
      | (go_at_call 22; (with_reducible refine (works_calls w).mono ?_); rintro e w1 ⟨rfl, hb1⟩; (have HB1 := Lib.hid hb1); clear hb1)
      | (go_at_call 10; (with_reducible refine (few_calls _ _ _ _ _ (HS.out.keep HB1.out) HT.out).mono ?_); rintro e w2 ⟨rfl, hw2⟩; subst w2; rw [HFW.out]))
    have hris := rising_calls w1 a n c L (HS.out.keep HB1.out) HT.out hn2
    rw [← HL.out] at hris
    obtain ⟨R, hR⟩ : ∃ R, R = risN L L.length := ⟨_, rfl⟩
    rw [← hR] at hris
    have hGR := HG.out
    have hXR := HX.out
    rw [← hR] at hGR hXR
    have HRIS := Lib.hid hris
    have HGR := Lib.hid hGR
    have HXR := Lib.hid hXR
    have hRl : R.length ≤ 2000000 := by have := tot_len R; have := hGR.tt; omega
    rw [HL.out] at HRIS
    clear hris hGR hXR HG HX hR
    go_upto_region 7 with (go_at_call 16; (with_reducible refine HRIS.out.mono ?_); rintro e w2 ⟨vr, rfl, how, hb2⟩; obtain ⟨ra, rc, rfl, hrs⟩ := OwL.toS how; (have HRS := Lib.hid hrs); (have HB2 := Lib.hid (HB1.out.trans (hb2.mono HB1.out.size))); clear how hrs hb2)
    have hmd := made_calls w2 ra R.length rc R HRS.out HXR.out HGR.out
    have HMD := Lib.hid hmd
    clear hmd
    go_upto_region 8 with (go_at_call 23; (with_reducible refine HMD.out.mono ?_); rintro e w3 ⟨gd, pa, pc, ea, ec, eb, vb, rfl, heb, hd, _, hb3⟩; (have HEB := Lib.hid heb); (have HD := Lib.hid hd); (have HRS3 := Lib.hid (HRS.out.keep hb3)); (have HB3 := Lib.hid (HB2.out.trans (hb3.mono HB2.out.size))); clear heb hd hb3)
    have hrg : ∀ W, Below w3.heap.size w3 W → ∀ q : ByteArray, Calls Try.prog 27 #[.pointer (some ⟨gd, 0, none⟩), .string q] W fun e w' => e = .returned (.tuple #[.int .i64 (fnd R q.data.toList : Nat), .int .i64 (fnd2 R q.data.toList : Nat)]) ∧ Below w3.heap.size w3 w' := fun W hW q => by
      have := range_calls W gd R.length _ pa pc _ ea ec eb (HD.out.keep hW) q
      rw [range_built HGR.out HEB.out] at this
      exact this.mono fun e w' ⟨h1, h2⟩ => ⟨h1, hW.trans (h2.mono hW.size)⟩
    have hfd : ∀ W, Below w3.heap.size w3 W → ∀ q : ByteArray, Calls Try.prog 26 #[.pointer (some ⟨gd, 0, none⟩), .string q] W fun e w' => e = .returned (.tuple #[.int .i64 (fnd R q.data.toList : Nat), .bool (decide (fnd R q.data.toList < R.length ∧ R.getD (fnd R q.data.toList) [] = q.data.toList))]) ∧ Below w3.heap.size w3 w' := fun W hW q => by
      have := find_calls W gd R.length _ pa pc _ ea ec eb (HD.out.keep hW) q
      rw [find_built HGR.out HEB.out] at this
      exact this.mono fun e w' ⟨h1, h2⟩ => ⟨h1, hW.trans (h2.mono hW.size)⟩
    obtain ⟨lo, hlo⟩ : ∃ lo, lo = fnd R p.data.toList := ⟨_, rfl⟩
    obtain ⟨hi, hhi⟩ : ∃ hi, hi = fnd2 R p.data.toList := ⟨_, rfl⟩
    have hrg1 := hrg w3 (Below.refl _ _) p
    rw [← hlo, ← hhi] at hrg1
    have hlol : lo ≤ hi := by rw [hlo, hhi]; exact fnd_le2 HGR.out _
    have hhil : hi ≤ R.length := by rw [hhi]; exact (fnd2_cut HGR.out _).1
    have hrg2 := fun W hW => hrg W hW ⟨#[]⟩
    rw [show (⟨#[]⟩ : ByteArray).data.toList = [] from rfl, (fnd_nil R).1, (fnd_nil R).2] at hrg2
    have hfd2 := fun W hW => hfd W hW p
    rw [← hlo] at hfd2
    obtain ⟨fb, hfb⟩ : ∃ fb, fb = decide (lo < R.length ∧ R.getD lo [] = p.data.toList) := ⟨_, rfl⟩
    rw [← hfb] at hfd2
    have HPR : Hid (∀ i, i < R.length → preB p.data.toList (R.getD i []) = decide (lo ≤ i ∧ i < hi)) := Lib.hid (by rw [hlo, hhi]; exact pre_range HGR.out _)
    have H1 := Lib.hid hrg1
    have H2 := Lib.hid hrg2
    have H3 := Lib.hid hfd2
    clear hrg hfd hrg1 hrg2 hfd2 hlo hhi hfb
    go_upto_region 11 with (go_at_call 27; (with_reducible refine H1.out.mono ?_); rintro e w4 ⟨rfl, hb4⟩; (have HB4 := Lib.hid hb4); clear hb4)
    have HRS4 := Lib.hid (HRS3.out.keep HB4.out)
    go_wp2
    go_loopw [11] (fun iv wr => ∃ (i m : Nat), iv = .int .i64 (i : Nat) ∧ i ≤ R.length ∧ wr = w4.drewN m) (fun iv _ => R.length - (intOf iv).toNat)
    case atStart => exact ⟨0, 0, rfl, Nat.zero_le _, rfl⟩
    case round =>
      obtain ⟨i, m, rfl, hiR, rfl⟩ := hrel
      by_cases hlt : i < R.length
      rotate_left
      · obtain rfl : i = R.length := by omega
        have HB4m : Hid (Below w3.heap.size w3 (w4.drewN m)) := Lib.hid (below_drewN HB4.out m)
        have HF2 := H2.out _ HB4m.out
        clear HRS4
        go_upto_region 18 with (go_at_call 27; (with_reducible refine (H2.out _ HB4m.out).mono ?_); rintro e w5 ⟨rfl, hb5⟩; (have HB5 := Lib.hid hb5); clear hb5)
        go_upto_region 19 with (go_at_call 26; (with_reducible refine (H3.out _ HB5.out).mono ?_); rintro e w6 ⟨rfl, hb6⟩; (have HB6 := Lib.hid hb6); clear hb6)
        have z1 : decide ((lo : Int) ≤ (hi : Int)) = true := decide_eq_true (by omega)
        have z1' : decide (lo ≤ hi) = true := decide_eq_true hlol
        by_cases hlh : lo < hi
        · have z2 : decide ((lo : Int) < (hi : Int)) = true := decide_eq_true (by omega)
          have z2' : decide (lo < hi) = true := decide_eq_true hlh
          go_wp2
          go_ret
          exact ⟨by simp, HB3.out.trans (HB6.out.mono HB3.out.size)⟩
        · have z2 : decide ((lo : Int) < (hi : Int)) = false := decide_eq_false (by omega)
          have z2' : decide (lo < hi) = false := decide_eq_false hlh
          go_wp2
          go_ret
          exact ⟨by simp, HB3.out.trans (HB6.out.mono HB3.out.size)⟩
      obtain ⟨tb, to, rfl, htc⟩ := (HRS4.out.keep (below_drewN (Below.refl w4.heap.size w4) m)).cell i hlt
      obtain ⟨tB, htB⟩ : ∃ tB : ByteArray, tB = ⟨(R.getD i []).toArray⟩ := ⟨_, rfl⟩
      have htd : tB.data.toList = R.getD i [] := by rw [htB]
      have htz : tB.size ≤ 262144 := by rw [Lib.size_eq, htd]; exact HGR.out.sz i hlt
      rw [← htB] at htc
      have hpr := HPR.out i hlt
      rw [← htd] at hpr
      clear htB htd
      by_cases hl1 : lo ≤ i
      · by_cases hh1 : i < hi
        · have q1 : decide ((lo : Int) ≤ (i : Int)) = true := decide_eq_true (by omega)
          have q1' : decide (lo ≤ i) = true := decide_eq_true (by omega)
          have q2 : decide ((i : Int) < (hi : Int)) = true := decide_eq_true (by omega)
          have q2' : decide (i < hi) = true := decide_eq_true (by omega)
          have hpv : preB p.data.toList tB.data.toList = true := by rw [hpr]; exact decide_eq_true (by omega)
          by_cases hle : p.size ≤ tB.size
          · have d1 : decide ((p.size : Int) ≤ (tB.size : Int)) = true := decide_eq_true (by omega)
            have d1' : decide (p.size ≤ tB.size) = true := decide_eq_true hle
            have heq : ((tB.extract 0 p.size).toList == p.toList) = true := by rw [pre_cut tB p hle, hpv]
            clear hpv hpr
            go_wp2
            go_roundw
            case rel => exact ⟨i + 1, m, by go_num, by omega, rfl⟩
            case measure => simp [intOf]; omega
          · rw [pre_short hle] at hpv; cases hpv
        · have q1 : decide ((lo : Int) ≤ (i : Int)) = true := decide_eq_true (by omega)
          have q1' : decide (lo ≤ i) = true := decide_eq_true (by omega)
          have q2 : decide ((i : Int) < (hi : Int)) = false := decide_eq_false (by omega)
          have q2' : decide (i < hi) = false := decide_eq_false (by omega)
          have hpv : preB p.data.toList tB.data.toList = false := by rw [hpr]; exact decide_eq_false (by omega)
          by_cases hle : p.size ≤ tB.size
          · have d1 : decide ((p.size : Int) ≤ (tB.size : Int)) = true := decide_eq_true (by omega)
            have d1' : decide (p.size ≤ tB.size) = true := decide_eq_true hle
            have heq : ((tB.extract 0 p.size).toList == p.toList) = false := by rw [pre_cut tB p hle, hpv]
            clear hpv hpr
            go_wp2
            go_roundw
            case rel => exact ⟨i + 1, m, by go_num, by omega, rfl⟩
            case measure => simp [intOf]; omega
          · have d1 : decide ((p.size : Int) ≤ (tB.size : Int)) = false := decide_eq_false (by omega)
            have d1' : decide (p.size ≤ tB.size) = false := decide_eq_false hle
            clear hpv hpr
            go_wp2
            go_roundw
            case rel => exact ⟨i + 1, m, by go_num, by omega, rfl⟩
            case measure => simp [intOf]; omega
      · have q1 : decide ((lo : Int) ≤ (i : Int)) = false := decide_eq_false (by omega)
        have q1' : decide (lo ≤ i) = false := decide_eq_false (by omega)
        have q2 : decide ((i : Int) < (hi : Int)) = true := decide_eq_true (by omega)
        have q2' : decide (i < hi) = true := decide_eq_true (by omega)
        have hpv : preB p.data.toList tB.data.toList = false := by rw [hpr]; exact decide_eq_false (by omega)
        by_cases hle : p.size ≤ tB.size
        · have d1 : decide ((p.size : Int) ≤ (tB.size : Int)) = true := decide_eq_true (by omega)
          have d1' : decide (p.size ≤ tB.size) = true := decide_eq_true hle
          have heq : ((tB.extract 0 p.size).toList == p.toList) = false := by rw [pre_cut tB p hle, hpv]
          clear hpv hpr
          go_wp2
          go_roundw
          case rel => exact ⟨i + 1, m, by go_num, by omega, rfl⟩
          case measure => simp [intOf]; omega
        · have d1 : decide ((p.size : Int) ≤ (tB.size : Int)) = false := decide_eq_false (by omega)
          have d1' : decide (p.size ≤ tB.size) = false := decide_eq_false hle
          clear hpv hpr
          go_wp2
          go_roundw
          case rel => exact ⟨i + 1, m, by go_num, by omega, rfl⟩
          case measure => simp [intOf]; omega
end Go.Proofs.Ytjgcmnppiaikcaa
