/- VaA VaD, laid as one. -/
import Derived.Test.YtlhcejbimlilaaaGreatDoorVaM
import Derived.Test.YtlhcejbimlilaaaGreatDoorTypes
import Derived.Test.YtlhcejbimlilaaaGreatDoorReg
import Derived.Deep.QuietTactic
import Derived.BigQuiet
import Derived.Laws.Concat
import Derived.Test.YtlhcejbimlilaaaGreatDoorVbM
import Derived.Test.YtlhcejbimlilaaaGreatDoorQuL
set_option linter.unusedVariables false
set_option linter.unusedSimpArgs false
/- The program's sign, allDigits. -/
namespace Go.Tk
open Go Go.RowKit
theorem ex_drop (s : ByteArray) (n : Nat) : s.extract n s.size = ⟨(s.data.toList.drop n).toArray⟩ := by
  rw [Lib.extract_eq, List.take_of_length_le (by rw [List.length_drop, ← Lib.size_eq]; omega)]
theorem ex_take (s : ByteArray) (n : Nat) : s.extract 0 n = ⟨(s.data.toList.take n).toArray⟩ := by
  rw [Lib.extract_eq]; simp
theorem ba_get (s : ByteArray) (i : Nat) (h : i < s.size) : s.data.toList[i]'(by rw [← Lib.size_eq]; exact h) = s[i] := by cases s; rfl
theorem ba_cons (s : ByteArray) (h : 0 < s.size) : s.data.toList = s[0] :: s.data.toList.drop 1 := by
  have := List.drop_eq_getElem_cons (l := s.data.toList) (i := 0) (by rw [← Lib.size_eq]; exact h)
  rw [List.drop_zero] at this
  rw [this, ← ba_get s 0 h]; rfl
theorem ba_nil (s : ByteArray) (h : ¬ 0 < s.size) : s.data.toList = [] := by
  apply List.eq_nil_of_length_eq_zero; rw [← Lib.size_eq]; omega
theorem u8_ne {a : UInt8} {n : Nat} (hn : n < 256) (h : ¬ a.toNat = n) : (a == UInt8.ofNat n) = false := by
  rw [beq_eq_false_iff_ne]; rintro rfl; exact h (UInt8.toNat_ofNat_of_lt' (by simpa using hn))
theorem u8_eq {a : UInt8} {n : Nat} (hn : n < 256) (h : a.toNat = n) : a = UInt8.ofNat n := by
  apply UInt8.toNat.inj; rw [h]; exact (UInt8.toNat_ofNat_of_lt' (by simpa using hn)).symm
theorem str_mk (s : ByteArray) : (⟨s.data.toList.toArray⟩ : ByteArray) = s := by cases s; simp
theorem dgB_cons (c : UInt8) (t : List UInt8) : dgB (c :: t) = ((decide (48 ≤ c.toNat) && decide (c.toNat ≤ 57)) && dgB t) := by
  unfold dgB
  rw [List.all_cons]
  congr 1
end Go.Tk
namespace Go.Proofs.YtlhcejbimlilaaaGreatDoor
open Go.RowKit Go.Tk
theorem sign_calls (s : ByteArray) (w : World) (hs : s.size ≤ 9223372036854770000) :
    Calls Tryz.prog 94 #[.string s] w fun e w' => e = .returned (.tuple #[.bool (sgnB s.data.toList), .string ⟨(sgnR s.data.toList).toArray⟩]) ∧ ∃ n, w' = w.drewN n := by
  by_cases h0 : 0 < s.size
  · have hc := ba_cons s h0
    obtain ⟨c, hcc⟩ : ∃ c, c = s[0] := ⟨_, rfl⟩
    rw [← hcc] at hc
    have hne : (s.toList == []) = false := by rw [Lib.toList_data, hc]; rfl
    have hex := ex_drop s 1
    by_cases h1 : c.toNat = 43
    · have e1 : sgnB s.data.toList = false := by rw [hc, u8_eq (by omega) h1]; rfl
      have e2 : sgnR s.data.toList = s.data.toList.drop 1 := by rw [hc, u8_eq (by omega) h1]; rfl
      rw [e1, e2, ← hex]
      have hx : (((s[0]).toNat : Nat) : Int) = 43 := by rw [← hcc, h1]; rfl
      clear hc hcc h1 e1 e2 hex
      go_enter Tryz.func94, Tryz.ntmps94
      go_wp2_with fail
      go_quiet (fail)
      go_wp2_with fail
      go_ret2
      exact ⟨rfl, _, rfl⟩
    · have n1 : (((s[0]).toNat : Nat) : Int) ≠ 43 := by rw [← hcc]; omega
      by_cases h2 : c.toNat = 45
      · have e1 : sgnB s.data.toList = true := by rw [hc, u8_eq (by omega) h2]; rfl
        have e2 : sgnR s.data.toList = s.data.toList.drop 1 := by rw [hc, u8_eq (by omega) h2]; rfl
        rw [e1, e2, ← hex]
        have hx : (((s[0]).toNat : Nat) : Int) = 45 := by rw [← hcc, h2]; rfl
        clear hc hcc h1 h2 e1 e2 hex n1
        go_enter Tryz.func94, Tryz.ntmps94
        go_wp2_with fail
        go_quiet (fail)
        go_wp2_with fail
        go_ret2
        exact ⟨rfl, _, rfl⟩
      · have e1 : sgnB s.data.toList = false := by rw [hc]; exact u8_ne (n := 45) (by omega) h2
        have e2 : sgnR s.data.toList = s.data.toList := by
          have q1 : (c == 43) = false := u8_ne (n := 43) (by omega) h1
          have q2 : (c == 45) = false := u8_ne (n := 45) (by omega) h2
          rw [hc]; simp only [sgnR, q1, q2]; rfl
        rw [e1, e2, str_mk]
        have n2 : (((s[0]).toNat : Nat) : Int) ≠ 45 := by rw [← hcc]; omega
        have b1 : ((((s[0]).toNat : Nat) : Int) == 43) = false := by rw [beq_eq_false_iff_ne]; exact n1
        have b2 : ((((s[0]).toNat : Nat) : Int) == 45) = false := by rw [beq_eq_false_iff_ne]; exact n2
        clear hc hcc h1 h2 e1 e2 hex n1 n2
        go_enter Tryz.func94, Tryz.ntmps94
        go_wp2_with fail
        go_ret2
        exact ⟨rfl, 0, rfl⟩
  · have hn := ba_nil s h0
    have e1 : sgnB s.data.toList = false := by rw [hn]; rfl
    have e2 : sgnR s.data.toList = s.data.toList := by rw [hn]; rfl
    rw [e1, e2, str_mk]
    have hne : (s.toList == []) = true := by rw [Lib.toList_data, hn]; rfl
    clear hn e1 e2
    go_enter Tryz.func94, Tryz.ntmps94
    go_wp2_with fail
    go_ret2
    exact ⟨rfl, 0, rfl⟩
set_option maxHeartbeats 1000000 in
theorem allDigits_calls (s : ByteArray) (w : World) (hs : s.size ≤ 9223372036854770000) :
    Calls Tryz.prog 96 #[.string s] w fun e w' => e = .returned (.bool (dgB s.data.toList)) ∧ w = w' := by
  obtain ⟨N, hN⟩ : ∃ N, N = dgB s.data.toList := ⟨_, rfl⟩
  rw [← hN]
  have HN := Lib.hid hN
  clear hN
  go_enter Tryz.func96, Tryz.ntmps96
  go_wp2_with fail
  go_loop [3, 6] (fun _ i => ∃ k : Nat, k ≤ s.size ∧ i = .int .i64 (k : Nat) ∧ dgB (s.data.toList.drop k) = N) (fun _ i => s.size - (intOf i).toNat)
  case atStart => exact ⟨0, Nat.zero_le _, rfl, by rw [HN.out]; rfl⟩
  case round =>
    obtain ⟨k, hk, rfl, hd⟩ := hrel
    by_cases hlt : k < s.size
    · rw [List.drop_eq_getElem_cons (by rw [← Lib.size_eq]; exact hlt), ba_get s k hlt, dgB_cons] at hd
      obtain ⟨x, hx⟩ : ∃ x : Int, (((s[k]).toNat : Nat) : Int) = x := ⟨_, rfl⟩
      by_cases c1 : (s[k]).toNat < 48
      · rw [decide_eq_false (by omega)] at hd
        have hf : N = false := by rw [← hd]; rfl
        subst hf
        have c2 : x < 48 := by omega
        clear hd c1
        go_wp2_with fail
        go_ret
        exact ⟨rfl, rfl⟩
      by_cases c3 : 57 < (s[k]).toNat
      · rw [decide_eq_true (by omega), decide_eq_false (by omega)] at hd
        have hf : N = false := by rw [← hd]; rfl
        subst hf
        have c2 : 57 < x := by omega
        have c4 : 48 ≤ x := by omega
        clear hd c1 c3
        go_wp2_with fail
        go_ret
        exact ⟨rfl, rfl⟩
      · rw [decide_eq_true (by omega), decide_eq_true (by omega)] at hd
        have hd' : dgB (s.data.toList.drop (k + 1)) = N := hd
        have HD := Lib.hid hd'
        have c2 : 48 ≤ x := by omega
        have c4 : x ≤ 57 := by omega
        clear hd hd' c1 c3
        go_wp2_with fail
        go_round
        case rel => exact ⟨k + 1, by omega, by go_num, HD.out⟩
        case measure => simp [intOf]; omega
    · rw [List.drop_of_length_le (by rw [← Lib.size_eq]; omega)] at hd
      have hf : N = true := by rw [← hd]; rfl
      subst hf
      clear hd
      go_wp2_with fail
      go_ret
      exact ⟨rfl, rfl⟩
end Go.Proofs.YtlhcejbimlilaaaGreatDoor
/- The program's days: leap, monthDays, floor, yearDays, days, dated. -/
namespace Go.Tk
open Go Go.RowKit
theorem tmod0 (y k : Int) : (y.tmod k = 0) ↔ (y % k = 0) := by
  rw [← Int.dvd_iff_emod_eq_zero, ← Int.dvd_iff_tmod_eq_zero]
theorem tmod_yes {y k : Int} (h : y % k = 0) : (y.tmod k == 0) = true := by rw [beq_iff_eq]; exact (tmod0 y k).2 h
theorem tmod_no {y k : Int} (h : ¬ y % k = 0) : (y.tmod k == 0) = false := by rw [beq_eq_false_iff_ne]; exact fun e => h ((tmod0 y k).1 e)
theorem tmod_yes' {y k : Int} (h : y % k = 0) : (y.tmod k != 0) = false := by rw [bne_eq_false_iff_eq]; exact (tmod0 y k).2 h
theorem tmod_no' {y k : Int} (h : ¬ y % k = 0) : (y.tmod k != 0) = true := by rw [bne_iff_ne]; exact fun e => h ((tmod0 y k).1 e)
theorem tfloor (a b : Int) (hb : 0 < b) : a / b = if a.tmod b < 0 then a.tdiv b - 1 else a.tdiv b := by
  rw [Int.tmod_def]
  have h1 := Int.mul_ediv_add_emod a b
  have h2 := Int.emod_nonneg a (b := b) (by omega)
  have h3 := Int.emod_lt_of_pos a hb
  have h4 := Int.mul_tdiv_add_tmod a b
  have h5 : a.tmod b = a - b * a.tdiv b := Int.tmod_def a b
  rw [← h5]
  rcases Int.le_total 0 a with ha | ha
  · have : a.tdiv b = a / b := Int.tdiv_eq_ediv_of_nonneg ha
    have h6 := Int.tmod_nonneg b ha
    rw [if_neg (by omega), this]
  · have h7 : a.tmod b ≤ 0 := by
      have := Int.tmod_nonneg b (a := -a) (by omega)
      rw [Int.neg_tmod] at this
      omega
    have h8 : -b < a.tmod b := by have := Int.lt_tmod_of_pos a hb; omega
    obtain ⟨q, hq⟩ : ∃ q, q = a.tdiv b := ⟨_, rfl⟩
    obtain ⟨r, hr⟩ : ∃ r, r = a.tmod b := ⟨_, rfl⟩
    rw [← hq, ← hr] at h4
    rw [← hr] at h7 h8
    rw [← hq, ← hr]
    split
    · rename_i h9
      have e : a = b * (q - 1) + (r + b) := by rw [Int.mul_sub]; omega
      exact ((Int.ediv_emod_unique hb).2 ⟨by omega, by omega, by omega⟩ : a / b = q - 1 ∧ a % b = r + b).1
    · rename_i h9
      have e : a = b * q + r := by omega
      exact ((Int.ediv_emod_unique hb).2 ⟨by omega, by omega, by omega⟩ : a / b = q ∧ a % b = r).1
end Go.Tk
namespace Go.Proofs.YtlhcejbimlilaaaGreatDoor
open Go.RowKit Go.Tk
theorem leap_calls (y : Int) (w : World) (h0 : -4000000000000000000 ≤ y) (h1 : y ≤ 4000000000000000000) :
    Calls Tryz.prog 155 #[.int .i64 y] w fun e w' => e = .returned (.bool (lpB y)) ∧ w = w' := by
  by_cases a4 : y % 4 = 0
  · have t4 := tmod_yes a4
    by_cases a1 : y % 100 = 0
    · have t1 := tmod_yes' a1
      by_cases a0 : y % 400 = 0
      · have t0 := tmod_yes a0
        have e : lpB y = true := by unfold lpB; simp [a4, a1, a0]
        rw [e]
        clear e a4 a1 a0
        go_enter Tryz.func155, Tryz.ntmps155
        go_wp2_with fail
        go_ret
        exact ⟨rfl, rfl⟩
      · have t0 := tmod_no a0
        have e : lpB y = false := by unfold lpB; simp [a4, a1, a0]
        rw [e]
        clear e a4 a1 a0
        go_enter Tryz.func155, Tryz.ntmps155
        go_wp2_with fail
        go_ret
        exact ⟨rfl, rfl⟩
    · have t1 := tmod_no' a1
      have e : lpB y = true := by unfold lpB; simp [a4, a1]
      rw [e]
      clear e a4 a1
      go_enter Tryz.func155, Tryz.ntmps155
      go_wp2_with fail
      go_ret
      exact ⟨rfl, rfl⟩
  · have t4 := tmod_no a4
    have e : lpB y = false := by unfold lpB; simp [a4]
    rw [e]
    clear e a4
    go_enter Tryz.func155, Tryz.ntmps155
    go_wp2_with fail
    go_ret
    exact ⟨rfl, rfl⟩
theorem monthDays_calls (y m : Int) (w : World) (h0 : -4000000000000000000 ≤ y) (h1 : y ≤ 4000000000000000000) :
    Calls Tryz.prog 126 #[.int .i64 y, .int .i64 m] w fun e w' => e = .returned (.int .i64 (mdP y m)) ∧ w = w' := by
  have hl := fun w => leap_calls y w h0 h1
  by_cases c2 : m = 2
  · subst c2
    cases hb : lpB y with
    | true =>
      rw [hb] at hl
      have e : mdP y 2 = 29 := by unfold mdP; rw [if_pos rfl, if_pos hb]
      rw [e]
      have HL := Lib.hid hl
      clear e hl hb
      go_enter Tryz.func126, Tryz.ntmps126
      go_wp2_with (go_at_call 155; (with_reducible refine (HL.out _).mono ?_); rintro e w' ⟨rfl, rfl⟩)
      go_ret
      exact ⟨rfl, rfl⟩
    | false =>
      rw [hb] at hl
      have e : mdP y 2 = 28 := by unfold mdP; rw [if_pos rfl, if_neg (by simp [hb])]
      rw [e]
      have HL := Lib.hid hl
      clear e hl hb
      go_enter Tryz.func126, Tryz.ntmps126
      go_wp2_with (go_at_call 155; (with_reducible refine (HL.out _).mono ?_); rintro e w' ⟨rfl, rfl⟩)
      go_ret
      exact ⟨rfl, rfl⟩
  · have b2 : (m == 2) = false := by rw [beq_eq_false_iff_ne]; exact c2
    by_cases c4 : m = 4 ∨ m = 6 ∨ m = 9 ∨ m = 11
    · have e : mdP y m = 30 := by unfold mdP; rw [if_neg c2, if_pos c4]
      rw [e]
      clear e hl
      rcases c4 with rfl | rfl | rfl | rfl
      all_goals
        clear c2
        go_enter Tryz.func126, Tryz.ntmps126
        go_wp2_with fail
        go_ret
        exact ⟨rfl, rfl⟩
    · have e : mdP y m = 31 := by unfold mdP; rw [if_neg c2, if_neg c4]
      rw [e]
      have b4 : (m == 4) = false := by rw [beq_eq_false_iff_ne]; omega
      have b6 : (m == 6) = false := by rw [beq_eq_false_iff_ne]; omega
      have b9 : (m == 9) = false := by rw [beq_eq_false_iff_ne]; omega
      have b11 : (m == 11) = false := by rw [beq_eq_false_iff_ne]; omega
      clear e hl c2 c4
      go_enter Tryz.func126, Tryz.ntmps126
      go_wp2_with fail
      go_ret
      exact ⟨rfl, rfl⟩
theorem floor_calls (a b : Int) (w : World) (hb : 0 < b) (hb2 : b ≤ 4000000000000000000) (h0 : -4000000000000000000 ≤ a) (h1 : a ≤ 4000000000000000000) :
    Calls Tryz.prog 143 #[.int .i64 a, .int .i64 b] w fun e w' => e = .returned (.int .i64 (a / b)) ∧ w = w' := by
  have hf := tfloor a b hb
  have hq : -4000000000000000000 ≤ a.tdiv b ∧ a.tdiv b ≤ 4000000000000000000 := by
    have h4 := Int.natAbs_tdiv_le_natAbs a b
    omega
  by_cases c : a.tmod b < 0
  · rw [if_pos c] at hf
    rw [hf]
    obtain ⟨hq1, hq2⟩ := hq
    have hne : (b == 0) = false := by rw [beq_eq_false_iff_ne]; omega
    clear hf
    go_enter Tryz.func143, Tryz.ntmps143
    go_wp2_with fail
    go_ret
    exact ⟨rfl, rfl⟩
  · rw [if_neg c] at hf
    rw [hf]
    obtain ⟨hq1, hq2⟩ := hq
    have c' : 0 ≤ a.tmod b := by omega
    have hne : (b == 0) = false := by rw [beq_eq_false_iff_ne]; omega
    clear hf c
    go_enter Tryz.func143, Tryz.ntmps143
    go_wp2_with fail
    go_ret
    exact ⟨rfl, rfl⟩
theorem yearDays_calls (y : Int) (w : World) (h0 : -1000000000000000 ≤ y) (h1 : y ≤ 1000000000000000) :
    Calls Tryz.prog 156 #[.int .i64 y] w fun e w' => e = .returned (.int .i64 (ydP y)) ∧ w = w' := by
  have f4 := fun w => floor_calls (y - 1) 4 w (by omega) (by omega) (by omega) (by omega)
  have f1 := fun w => floor_calls (y - 1) 100 w (by omega) (by omega) (by omega) (by omega)
  have f0 := fun w => floor_calls (y - 1) 400 w (by omega) (by omega) (by omega) (by omega)
  have e : ydP y = 365 * y + (y - 1) / 4 - (y - 1) / 100 + (y - 1) / 400 + 1 := rfl
  obtain ⟨q4, h4⟩ : ∃ q, q = (y - 1) / 4 := ⟨_, rfl⟩
  obtain ⟨q1, h1'⟩ : ∃ q, q = (y - 1) / 100 := ⟨_, rfl⟩
  obtain ⟨q0, h0'⟩ : ∃ q, q = (y - 1) / 400 := ⟨_, rfl⟩
  have b4 : -1000000000000000 ≤ q4 ∧ q4 ≤ 1000000000000000 := by omega
  have b1 : -1000000000000000 ≤ q1 ∧ q1 ≤ 1000000000000000 := by omega
  have b0 : -1000000000000000 ≤ q0 ∧ q0 ≤ 1000000000000000 := by omega
  rw [← h4] at f4 e
  rw [← h1'] at f1 e
  rw [← h0'] at f0 e
  rw [e]
  obtain ⟨b4a, b4b⟩ := b4
  obtain ⟨b1a, b1b⟩ := b1
  obtain ⟨b0a, b0b⟩ := b0
  have F4 := Lib.hid f4
  have F1 := Lib.hid f1
  have F0 := Lib.hid f0
  clear f4 f1 f0 e h4 h1' h0'
  go_enter Tryz.func156, Tryz.ntmps156
  go_wp2_with (first | (go_at_call 143; (with_reducible refine (F4.out _).mono ?_); rintro e w' ⟨rfl, rfl⟩) | (go_at_call 143; (with_reducible refine (F1.out _).mono ?_); rintro e w' ⟨rfl, rfl⟩) | (go_at_call 143; (with_reducible refine (F0.out _).mono ?_); rintro e w' ⟨rfl, rfl⟩))
  go_ret
  exact ⟨rfl, rfl⟩
set_option maxHeartbeats 1000000 in
theorem days_calls (y m d : Int) (w : World) (h0 : -1000000000000 ≤ y) (h1 : y ≤ 1000000000000) (hm1 : 1 ≤ m) (hm2 : m ≤ 12) (hd1 : 0 ≤ d) (hd2 : d ≤ 100) :
    Calls Tryz.prog 127 #[.int .i64 y, .int .i64 m, .int .i64 d] w fun e w' => e = .returned (.int .i64 (dyP y m d)) ∧ w = w' := by
  have hy := fun w => yearDays_calls y w (by omega) (by omega)
  have hb : -400000000000000 ≤ ydP y ∧ ydP y ≤ 400000000000000 := by unfold ydP; omega
  obtain ⟨Y, hY⟩ : ∃ Y, Y = ydP y := ⟨_, rfl⟩
  have e : dyP y m d = Y + cmP y (m - 1).toNat + (d - 1) := by unfold dyP; rw [hY]
  rw [e]
  rw [← hY] at hy hb
  obtain ⟨hb1, hb2⟩ := hb
  have HY := Lib.hid hy
  clear e hy hY
  go_enter Tryz.func127, Tryz.ntmps127
  go_wp2_with (go_at_call 156; (with_reducible refine (HY.out _).mono ?_); rintro e w' ⟨rfl, rfl⟩)
  go_loop [7, 8] (fun n i => ∃ k : Nat, (k : Int) + 1 ≤ m ∧ i = .int .i64 ((k : Int) + 1) ∧ n = .int .i64 (Y + cmP y k)) (fun _ i => (m - intOf i).toNat)
  case atStart => exact ⟨0, by omega, rfl, by simp [cmP]⟩
  case round =>
    obtain ⟨k, hk, rfl, rfl⟩ := hrel
    have hc := cmP_bd y k
    obtain ⟨hc1, hc2⟩ := hc
    by_cases hlt : (k : Int) + 1 < m
    · have hmd := fun w => monthDays_calls y ((k : Int) + 1) w (by omega) (by omega)
      have hs : cmP y (k + 1) = cmP y k + mdP y ((k : Int) + 1) := rfl
      have hmb := mdP_bd y ((k : Int) + 1)
      obtain ⟨M, hM⟩ : ∃ M, M = mdP y ((k : Int) + 1) := ⟨_, rfl⟩
      obtain ⟨C, hC⟩ : ∃ C, C = cmP y k := ⟨_, rfl⟩
      rw [← hM] at hmd hs hmb
      rw [← hC] at hs hc1 hc2 ⊢
      obtain ⟨hmb1, hmb2⟩ := hmb
      have HMD := Lib.hid hmd
      have HS := Lib.hid hs
      clear hmd hs hM hC
      go_wp2_with (go_at_call 126; (with_reducible refine (HMD.out _).mono ?_); rintro e w' ⟨rfl, rfl⟩)
      go_round
      case rel => exact ⟨k + 1, by omega, by go_num, by rw [HS.out]; go_num⟩
      case measure => simp [intOf]; omega
    · have hf : cmP y (m - 1).toNat = cmP y k := by rw [show (m - 1).toNat = k by omega]
      have HF := Lib.hid hf
      clear hf
      go_wp2_with fail
      go_ret
      exact ⟨ret_int (by rw [show m.toNat - 1 = k by omega]), rfl⟩
end Go.Proofs.YtlhcejbimlilaaaGreatDoor
