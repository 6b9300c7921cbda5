/- barred, Reference, Check: the program's and the document's. -/
import Derived.Test.YthdkhlkmcebfeaaIriChk
set_option linter.unusedVariables false
set_option linter.unusedSimpArgs false
namespace Go.Proofs.Ythdkhlkmcebfeaa
open Go.RowKit Go.Tk
theorem ascii_bar : Ascii { data := #[60, 62, 34, 123, 125, 124, 94, 96, 92] } := by unfold Ascii; decide
theorem barred_calls (x : Nat) (w : World) (h : x ≤ 1114111) :
    Calls Try.prog 43 #[.int .i32 (x : Nat)] w fun e w' => e = .returned (.bool (barX x)) ∧ Below w.heap.size w w' := by
  by_cases h1 : (x : Int) ≤ 32
  · rw [barX_low h1]
    go_enter Try.func43, Try.ntmps43
    go_wp2_with fail
    go_ret
    exact ⟨rfl, Below.refl _ _⟩
  · have hc := containsRune_any { data := #[60, 62, 34, 123, 125, 124, 94, 96, 92] } x (hs := ascii_bar) (h0 := by omega) (h1 := by omega) (hsz := by decide)
    have e : decide (0 ≤ runeAt (ByteArray.data { data := #[60, 62, 34, 123, 125, 124, 94, 96, 92] }).toList (x : Int)) = barX x := (barX_high h1).symm
    rw [e] at hc
    have HC := Lib.hid hc
    clear hc e
    go_enter Try.func43, Try.ntmps43
    go_wp2_with (go_at_call 62; refine (HC.out _).mono ?_; rintro e w' ⟨rfl, hb⟩)
    go_ret
    exact ⟨rfl, hb⟩
theorem barred_pays (w : World) : PredGrows Try.prog 43 #[] (fun x => barX x) w := fun W x hx _ => barred_calls x W hx
theorem barred_enters : ∀ args w, (callFunc 43 args).run Try.prog w = .ok (.enter 43 args) w := enters_of Try.func43 (by kernel_rfl) rfl
theorem indexBar_calls (s : ByteArray) (w : World) :
    Calls Try.prog 42 #[.string s, .func (.func 43) #[] #[]] w fun e w' => e = .returned (.int .i64 (if unt barB s.data.toList < s.data.toList.length then ((unt barB s.data.toList : Nat) : Int) else -1)) ∧ Below w.heap.size w w' := by
  have := Try.strings_IndexFunc_grows 43 #[] barred_enters (fun x => barX x) s w (barred_pays w)
  rw [idx_bytes (fun x => barX x) barB (fun x h => barX_lt x h) (fun _ => rfl)] at this
  exact this
theorem chkF_ge : ∀ (f : Nat) (l : List UInt8) (x : Int), 0 ≤ x → -1 ≤ chkN f l x
  | 0, _, _, _ => by simp [chkN]
  | f + 1, l, x, h => by
    simp only [chkN]
    split; · omega
    split; · omega
    · exact chkF_ge f _ _ (by omega)
theorem reference_calls (s : ByteArray) (w : World) (hs : s.size ≤ 9223372036854770000) :
    Calls Try.prog 18 #[.string s] w fun e w' => e = .returned (.int .i64 (refE s.data.toList)) ∧ Below w.heap.size w w' := by
  have hl : s.data.toList.length = s.size := by rw [← Lib.size_eq]
  by_cases h1 : 65536 < s.size
  · have e : refE s.data.toList = 2 := by unfold refE; rw [if_pos (by omega)]
    rw [e]
    clear e hl
    go_enter Try.func18, Try.ntmps18
    go_wp2_with fail
    go_ret
    exact ⟨rfl, Below.refl _ _⟩
  have hchk := check_calls s (hs := by omega)
  obtain ⟨c, hc⟩ : ∃ c, c = chkF s.data.toList 0 := ⟨_, rfl⟩
  rw [← hc] at hchk
  have HCHK := Lib.hid hchk
  by_cases h2 : 0 ≤ c
  · have e : refE s.data.toList = 40 := by unfold refE; rw [if_neg (by omega), if_pos (by omega)]
    rw [e]
    clear e hl hc hchk
    go_enter Try.func18, Try.ntmps18
    go_wp2_with (go_at_call 41; refine (HCHK.out _).mono ?_; rintro e w' ⟨rfl, rfl⟩)
    go_ret
    exact ⟨rfl, Below.refl _ _⟩
  have hix := indexBar_calls s
  by_cases h3 : unt barB s.data.toList < s.data.toList.length
  · have e : refE s.data.toList = 50 := by unfold refE; rw [if_neg (by omega), if_neg (by omega), if_pos h3]
    rw [e]
    simp only [if_pos h3] at hix
    obtain ⟨u, hu⟩ : ∃ u, u = unt barB s.data.toList := ⟨_, rfl⟩
    rw [← hu] at hix
    have HIX := Lib.hid hix
    clear e hl hc hchk hix hu h3
    go_enter Try.func18, Try.ntmps18
    go_wp2_with (first
      | (go_at_call 41; refine (HCHK.out _).mono ?_; rintro e w' ⟨rfl, rfl⟩)
      | (go_at_call 42; refine (HIX.out _).mono ?_; rintro e w' ⟨rfl, hb⟩))
    go_ret
    exact ⟨rfl, hb⟩
  · have e : refE s.data.toList = 0 := by unfold refE; rw [if_neg (by omega), if_neg (by omega), if_neg h3]
    rw [e]
    simp only [if_neg h3] at hix
    have HIX := Lib.hid hix
    clear e hl hc hchk hix h3
    go_enter Try.func18, Try.ntmps18
    go_wp2_with (first
      | (go_at_call 41; refine (HCHK.out _).mono ?_; rintro e w' ⟨rfl, rfl⟩)
      | (go_at_call 42; refine (HIX.out _).mono ?_; rintro e w' ⟨rfl, hb⟩))
    go_ret
    exact ⟨rfl, hb⟩
theorem bar_yes {x : Int} (w : World) (h : x = 60 ∨ x = 62 ∨ x = 34 ∨ x = 123 ∨ x = 125 ∨ x = 124 ∨ x = 94 ∨ x = 96 ∨ x = 92) : Calls Try.prog 45 #[.int .u8 x] w fun e w' => e = .returned (.bool true) ∧ w = w' := by
  rcases h with rfl | rfl | rfl | rfl | rfl | rfl | rfl | rfl | rfl
  all_goals
    go_enter Try.func45, Try.ntmps45
    go_wp2_with fail
    go_ret
    exact ⟨rfl, rfl⟩
theorem bar_other {x : Int} (w : World) (h : ¬ (x = 60 ∨ x = 62 ∨ x = 34 ∨ x = 123 ∨ x = 125 ∨ x = 124 ∨ x = 94 ∨ x = 96 ∨ x = 92)) : Calls Try.prog 45 #[.int .u8 x] w fun e w' => e = .returned (.bool (decide (x ≤ 32))) ∧ w = w' := by
  have e1 : (x == 60) = false := by rw [beq_eq_false_iff_ne]; omega
  have e2 : (x == 62) = false := by rw [beq_eq_false_iff_ne]; omega
  have e3 : (x == 34) = false := by rw [beq_eq_false_iff_ne]; omega
  have e4 : (x == 123) = false := by rw [beq_eq_false_iff_ne]; omega
  have e5 : (x == 125) = false := by rw [beq_eq_false_iff_ne]; omega
  have e6 : (x == 124) = false := by rw [beq_eq_false_iff_ne]; omega
  have e7 : (x == 94) = false := by rw [beq_eq_false_iff_ne]; omega
  have e8 : (x == 96) = false := by rw [beq_eq_false_iff_ne]; omega
  have e9 : (x == 92) = false := by rw [beq_eq_false_iff_ne]; omega
  clear h
  go_enter Try.func45, Try.ntmps45
  go_wp2_with fail
  go_ret
  exact ⟨rfl, rfl⟩
theorem rbarred_calls (b : UInt8) (w : World) : Calls Try.prog 45 #[.int .u8 (b.toNat : Nat)] w fun e w' => e = .returned (.bool (barB b)) ∧ w = w' := by
  unfold barB
  by_cases h : (b.toNat : Int) = 60 ∨ (b.toNat : Int) = 62 ∨ (b.toNat : Int) = 34 ∨ (b.toNat : Int) = 123 ∨ (b.toNat : Int) = 125 ∨ (b.toNat : Int) = 124 ∨ (b.toNat : Int) = 94 ∨ (b.toNat : Int) = 96 ∨ (b.toNat : Int) = 92
  · have : barX (b.toNat : Int) = true := by rcases h with h | h | h | h | h | h | h | h | h <;> rw [h] <;> rfl
    rw [this]
    exact bar_yes w h
  · have : barX (b.toNat : Int) = decide ((b.toNat : Int) ≤ 32) := by
      by_cases h1 : (b.toNat : Int) ≤ 32
      · rw [barX_low h1, decide_eq_true h1]
      · rw [decide_eq_false h1, barX_no (by omega) (by omega) (by omega) (by omega) (by omega) (by omega) (by omega) (by omega) (by omega) (by omega)]
    rw [this]
    exact bar_other w h
theorem rreference_calls (s : ByteArray) (w : World) (hs : s.size ≤ 9223372036854770000) :
    Calls Try.prog 19 #[.string s] w fun e w' => e = .returned (.int .i64 (refE s.data.toList)) ∧ Below w.heap.size w w' := by
  obtain ⟨l, hl⟩ : ∃ l, l = s.data.toList := ⟨_, rfl⟩
  have hll : l.length = s.size := by rw [hl, ← Lib.size_eq]
  rw [← hl]
  by_cases h1 : 65536 < s.size
  · have e : refE l = 2 := by unfold refE; rw [if_pos (by omega)]
    rw [e]
    clear e hl hll
    go_enter Try.func19, Try.ntmps19
    go_wp2_with fail
    go_ret
    exact ⟨rfl, Below.refl _ _⟩
  have hchk := rcheck_calls s (hs := by omega)
  rw [← hl] at hchk
  obtain ⟨c, hc⟩ : ∃ c, c = chkF l 0 := ⟨_, rfl⟩
  rw [← hc] at hchk
  have HCHK := Lib.hid hchk
  by_cases h2 : 0 ≤ c
  · have e : refE l = 40 := by unfold refE; rw [if_neg (by omega), if_pos (by omega)]
    rw [e]
    clear e hl hc hchk hll
    go_enter Try.func19, Try.ntmps19
    go_wp2_with (go_at_call 44; refine (HCHK.out _).mono ?_; rintro e w' ⟨rfl, hb⟩)
    go_ret
    exact ⟨rfl, hb⟩
  have hE : refE l = if unt barB l < l.length then 50 else 0 := by unfold refE; rw [if_neg (by omega), if_neg (by omega)]
  have HE := Lib.hid hE
  have HLL := Lib.hid hll
  have HL := Lib.hid hl
  clear hl hc hchk hll hE
  go_enter Try.func19, Try.ntmps19
  go_wp2_with (go_at_call 44; refine (HCHK.out _).mono ?_; rintro e w1 ⟨rfl, hb⟩)
  go_loop [3] (fun i => ∃ k : Nat, k ≤ s.size ∧ i = .int .i64 (k : Nat) ∧ ∀ b ∈ l.take k, barB b = false) (fun i => s.size - (intOf i).toNat)
  case atStart => exact ⟨0, Nat.zero_le _, rfl, by simp⟩
  case round =>
    obtain ⟨k, hk, rfl, ht⟩ := hrel
    have HT := Lib.hid ht
    clear ht
    by_cases hlt : k < s.size
    · obtain ⟨b, hbk⟩ : ∃ b, b = s[k] := ⟨_, rfl⟩
      have hkl : k < l.length := by rw [HLL.out]; exact hlt
      have hbl : l[k] = b := by
        have := HL.out
        subst this
        rw [hbk]; rfl
      have hrb := rbarred_calls b
      have HBL := Lib.hid hbl
      have HBK := Lib.hid hbk
      clear hbl hbk
      cases hbb : barB b with
      | true =>
        have hfin : refE l = 50 := by
          rw [HE.out, if_pos]
          rw [unt_at barB l k hkl (by rw [HBL.out, hbb]) HT.out]
          exact hkl
        have HF := Lib.hid hfin
        rw [hbb] at hrb
        have HRB := Lib.hid hrb
        clear hfin hbb hrb
        go_wp2_with (go_at_call 45; rw [← HBK.out]; refine (HRB.out _).mono ?_; rintro e w' ⟨rfl, rfl⟩)
        go_ret
        exact ⟨ret_int HF.out.symm, hb⟩
      | false =>
        have hnx := mem_take_snoc hkl HT.out (by rw [HBL.out, hbb])
        have HNX := Lib.hid hnx
        rw [hbb] at hrb
        have HRB := Lib.hid hrb
        clear hnx hbb hrb
        go_wp2_with (go_at_call 45; rw [← HBK.out]; refine (HRB.out _).mono ?_; rintro e w' ⟨rfl, rfl⟩)
        go_round
        case rel => exact ⟨k + 1, by omega, by go_num, HNX.out⟩
        case measure => simp [intOf]; omega
    · have hfin : refE l = 0 := by
        have h := HT.out
        rw [List.take_of_length_le (by rw [HLL.out]; omega)] at h
        rw [HE.out, if_neg (by rw [unt_none barB l h]; omega)]
      have HF := Lib.hid hfin
      clear hfin
      go_wp2_with fail
      go_ret
      exact ⟨ret_int HF.out.symm, hb⟩
theorem take_empty (l : List UInt8) (n : Nat) (h : n ≤ l.length) : (l.take n).isEmpty = (n == 0) := by
  cases n with
  | zero => simp
  | succ n => cases l with
    | nil => simp at h
    | cons b l => simp
theorem icheck_calls (s : ByteArray) (w : World) (hs : s.size ≤ 9223372036854770000) :
    Calls Try.prog 20 #[.string s] w fun e w' => e = .returned (.int .i64 (irE s.data.toList)) ∧ Below w.heap.size w w' := by
  have hrf := reference_calls s (hs := hs)
  have hsc := scheme_calls s (hs := by omega)
  obtain ⟨l, hl⟩ : ∃ l, l = s.data.toList := ⟨_, rfl⟩
  rw [← hl] at hrf hsc ⊢
  have hte := take_empty l (sch l) (sch_le l)
  obtain ⟨t, ht⟩ : ∃ t, t = l.take (sch l) := ⟨_, rfl⟩
  rw [← ht] at hte hsc
  have hir : irE l = if refE l = 0 then (if sch l = 0 then 51 else 0) else refE l := rfl
  have hrc := refE_cases l
  obtain ⟨r, hr⟩ : ∃ r, r = refE l := ⟨_, rfl⟩
  rw [← hr] at hrf hir hrc
  obtain ⟨n, hn⟩ : ∃ n, n = sch l := ⟨_, rfl⟩
  rw [← hn] at hte hir
  obtain ⟨x, hx⟩ : ∃ x, x = irE l := ⟨_, rfl⟩
  rw [← hx] at hir ⊢
  have HRF := Lib.hid hrf
  have HSC := Lib.hid hsc
  have HTE := Lib.hid hte
  have HIR := Lib.hid hir
  clear hl ht hr hn hx hrf hsc hte hir
  by_cases h0 : r = 0
  · subst h0
    clear hrc
    by_cases h1 : n = 0
    · have e1 : t.isEmpty = true := by rw [HTE.out, h1]; rfl
      have hfin : (51 : Int) = x := by rw [HIR.out, if_pos rfl, if_pos h1]
      have HF := Lib.hid hfin
      clear hfin h1
      go_enter Try.func20, Try.ntmps20
      go_wp2_with (first
        | (go_at_call 18; refine (HRF.out _).mono ?_; rintro e w1 ⟨rfl, hb1⟩)
        | (go_at_call 46; refine (HSC.out _).mono ?_; rintro e w2 ⟨rfl, hb2⟩))
      go_ret
      exact ⟨ret_int HF.out, hb1.trans (hb2.mono hb1.size)⟩
    · have e1 : t.isEmpty = false := by rw [HTE.out]; simpa using h1
      have hfin : (0 : Int) = x := by rw [HIR.out, if_pos rfl, if_neg h1]
      have HF := Lib.hid hfin
      clear hfin h1
      go_enter Try.func20, Try.ntmps20
      go_wp2_with (first
        | (go_at_call 18; refine (HRF.out _).mono ?_; rintro e w1 ⟨rfl, hb1⟩)
        | (go_at_call 46; refine (HSC.out _).mono ?_; rintro e w2 ⟨rfl, hb2⟩))
      go_ret
      exact ⟨ret_int HF.out, hb1.trans (hb2.mono hb1.size)⟩
  · have hfin : r = x := by rw [HIR.out, if_neg h0]
    have HF := Lib.hid hfin
    have e0 : (r != 0) = true := by rw [bne_iff_ne]; exact h0
    clear hfin h0 hrc
    go_enter Try.func20, Try.ntmps20
    go_wp2_with (go_at_call 18; refine (HRF.out _).mono ?_; rintro e w1 ⟨rfl, hb1⟩)
    go_ret
    exact ⟨ret_int HF.out, hb1⟩
theorem ircheck_calls (s : ByteArray) (w : World) (hs : s.size ≤ 9223372036854770000) :
    Calls Try.prog 21 #[.string s] w fun e w' => e = .returned (.int .i64 (irE s.data.toList)) ∧ Below w.heap.size w w' := by
  have hrf := rreference_calls s (hs := hs)
  have hsc := rscheme_calls s (hs := by omega)
  obtain ⟨l, hl⟩ : ∃ l, l = s.data.toList := ⟨_, rfl⟩
  rw [← hl] at hrf hsc ⊢
  have hir : irE l = if refE l = 0 then (if sch l = 0 then 51 else 0) else refE l := rfl
  obtain ⟨r, hr⟩ : ∃ r, r = refE l := ⟨_, rfl⟩
  rw [← hr] at hrf hir
  obtain ⟨n, hn⟩ : ∃ n, n = sch l := ⟨_, rfl⟩
  rw [← hn] at hsc hir
  obtain ⟨x, hx⟩ : ∃ x, x = irE l := ⟨_, rfl⟩
  rw [← hx] at hir ⊢
  have HRF := Lib.hid hrf
  have HSC := Lib.hid hsc
  have HIR := Lib.hid hir
  clear hl hr hn hx hrf hsc hir
  by_cases h0 : r = 0
  · subst h0
    by_cases h1 : n = 0
    · have e1 : ((n : Int) == 0) = true := by rw [beq_iff_eq]; omega
      have hfin : (51 : Int) = x := by rw [HIR.out, if_pos rfl, if_pos h1]
      have HF := Lib.hid hfin
      clear hfin h1
      go_enter Try.func21, Try.ntmps21
      go_wp2_with (first
        | (go_at_call 19; refine (HRF.out _).mono ?_; rintro e w1 ⟨rfl, hb1⟩)
        | (go_at_call 47; refine (HSC.out _).mono ?_; rintro e w2 ⟨rfl, rfl⟩))
      go_ret
      exact ⟨ret_int HF.out, hb1⟩
    · have e1 : ((n : Int) == 0) = false := by rw [beq_eq_false_iff_ne]; omega
      have hfin : (0 : Int) = x := by rw [HIR.out, if_pos rfl, if_neg h1]
      have HF := Lib.hid hfin
      clear hfin h1
      go_enter Try.func21, Try.ntmps21
      go_wp2_with (first
        | (go_at_call 19; refine (HRF.out _).mono ?_; rintro e w1 ⟨rfl, hb1⟩)
        | (go_at_call 47; refine (HSC.out _).mono ?_; rintro e w2 ⟨rfl, rfl⟩))
      go_ret
      exact ⟨ret_int HF.out, hb1⟩
  · have hfin : r = x := by rw [HIR.out, if_neg h0]
    have HF := Lib.hid hfin
    have e0 : (r == 0) = false := by rw [beq_eq_false_iff_ne]; exact h0
    clear hfin h0
    go_enter Try.func21, Try.ntmps21
    go_wp2_with (go_at_call 19; refine (HRF.out _).mono ?_; rintro e w1 ⟨rfl, hb1⟩)
    go_ret
    exact ⟨ret_int HF.out, hb1⟩
end Go.Proofs.Ythdkhlkmcebfeaa
