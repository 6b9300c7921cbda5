/- The document's scheme; barred, Reference, Check: the program's and the document's. -/
import Derived.Test.YthdkhlkmcebfeaaIriSch
set_option linter.unusedVariables false
set_option linter.unusedSimpArgs false
namespace Go.Tk
open Go Go.RowKit
/-- May a number not stand in a reference? -/
def barX (x : Int) : Bool := decide (x ≤ 32) || decide (0 ≤ runeAt [60, 62, 34, 123, 125, 124, 94, 96, 92] x)
def barB (b : UInt8) : Bool := barX b.toNat
theorem barX_low {x : Int} (h : x ≤ 32) : barX x = true := by unfold barX; simp [h]
theorem barX_high {x : Int} (h : ¬ x ≤ 32) : barX x = decide (0 ≤ runeAt [60, 62, 34, 123, 125, 124, 94, 96, 92] x) := by unfold barX; simp [h]
theorem barX_lt (x : Nat) (h : barX x = true) : x < 128 := by
  rcases Nat.lt_or_ge x 128 with h1 | h1
  · exact h1
  · unfold barX runeAt at h
    rw [if_neg (by omega), decide_eq_false (by omega)] at h
    simp at h
theorem barB_all : ∀ c : Fin 256, barX (c.val : Int) = (decide (c.val ≤ 32) || c.val == 60 || c.val == 62 || c.val == 34 || c.val == 123 || c.val == 125 || c.val == 124 || c.val == 94 || c.val == 96 || c.val == 92) := by decide +kernel
theorem barX_byte (b : UInt8) : barX (b.toNat : Int) = (decide (b.toNat ≤ 32) || b.toNat == 60 || b.toNat == 62 || b.toNat == 34 || b.toNat == 123 || b.toNat == 125 || b.toNat == 124 || b.toNat == 94 || b.toNat == 96 || b.toNat == 92) := barB_all ⟨b.toNat, UInt8.toNat_lt b⟩
theorem barX_no {b : UInt8} (h : ¬ b.toNat ≤ 32) (h1 : b.toNat ≠ 60) (h2 : b.toNat ≠ 62) (h3 : b.toNat ≠ 34) (h4 : b.toNat ≠ 123) (h5 : b.toNat ≠ 125) (h6 : b.toNat ≠ 124) (h7 : b.toNat ≠ 94) (h8 : b.toNat ≠ 96) (h9 : b.toNat ≠ 92) : barX (b.toNat : Int) = false := by
  rw [barX_byte, decide_eq_false h]; simp [h1, h2, h3, h4, h5, h6, h7, h8, h9]
/-- What Reference answers. -/
def refE (l : List UInt8) : Int := if 65536 < l.length then 2 else if 0 ≤ chkF l 0 then 40 else if unt barB l < l.length then 50 else 0
def irE (l : List UInt8) : Int := if refE l = 0 then (if sch l = 0 then 51 else 0) else refE l
theorem refE_cases (l : List UInt8) : refE l = 2 ∨ refE l = 40 ∨ refE l = 50 ∨ refE l = 0 := by
  unfold refE
  split; · simp
  split; · simp
  split <;> simp
end Go.Tk
namespace Go.Proofs.Ythdkhlkmcebfeaa
open Go.RowKit Go.Tk
theorem letter_calls (x : Int) (w : World) : Calls Try.prog 64 #[.int .u8 x] w fun e w' => e = .returned (.bool (isL x)) ∧ w = w' := by
  by_cases c1 : 97 ≤ x
  · by_cases c2 : x ≤ 122
    · have e := isL_yes (x := x) (by omega)
      rw [e]
      clear e
      go_enter Try.func64, Try.ntmps64
      go_wp2
      go_ret
      exact ⟨by simp [c1, c2], rfl⟩
    · have e := isL_no (x := x) (by omega)
      rw [e]
      clear e
      go_enter Try.func64, Try.ntmps64
      go_wp2
      go_ret
      exact ⟨by simp [c1, c2]; try omega, rfl⟩
  · by_cases c3 : 65 ≤ x
    · by_cases c4 : x ≤ 90
      · have e := isL_yes (x := x) (by omega)
        rw [e]
        clear e
        go_enter Try.func64, Try.ntmps64
        go_wp2
        go_ret
        exact ⟨by simp [c1, c3, c4], rfl⟩
      · have e := isL_no (x := x) (by omega)
        rw [e]
        clear e
        go_enter Try.func64, Try.ntmps64
        go_wp2
        go_ret
        exact ⟨by simp [c1, c3, c4], rfl⟩
    · have e := isL_no (x := x) (by omega)
      rw [e]
      clear e
      go_enter Try.func64, Try.ntmps64
      go_wp2
      go_ret
      exact ⟨by simp [c1, c3], rfl⟩
theorem digit_calls (x : Int) (w : World) : Calls Try.prog 65 #[.int .u8 x] w fun e w' => e = .returned (.bool (isD x)) ∧ w = w' := by
  by_cases c1 : 48 ≤ x
  · have e : isD x = decide (x ≤ 57) := by unfold isD; simp [c1]
    rw [e]
    clear e
    go_enter Try.func65, Try.ntmps65
    go_wp2
    go_ret
    exact ⟨by simp [c1], rfl⟩
  · have e : isD x = false := by unfold isD; simp [c1]
    rw [e]
    clear e
    go_enter Try.func65, Try.ntmps65
    go_wp2
    go_ret
    exact ⟨by simp [c1], rfl⟩
set_option maxHeartbeats 2000000 in
theorem rscheme_calls (s : ByteArray) (w : World) (hs : s.size ≤ 9223372036854770000) :
    Calls Try.prog 47 #[.string s] w fun e w' => e = .returned (.int .i64 (sch s.data.toList : Nat)) ∧ w = w' := by
  obtain ⟨N, hN⟩ : ∃ N, N = sch s.data.toList := ⟨_, rfl⟩
  rw [← hN]
  have HN := Lib.hid hN
  have hemp : N = 0 → Ending.returned (.int .i64 0) = .returned (.int .i64 (N : Nat)) := fun h => by rw [h]; rfl
  have HEMP := Lib.hid hemp
  clear hN hemp
  go_enter Try.func47, Try.ntmps47
  go_wp2_with fail
  go_loop [3, 4] (fun i _ => ∃ k : Nat, k ≤ s.size ∧ i = .int .i64 (k : Nat) ∧ schF (s.data.toList.drop k) k = N) (fun i _ => s.size - (intOf i).toNat)
  case atStart => exact ⟨0, Nat.zero_le _, rfl, by rw [HN.out]; rfl⟩
  case round =>
    obtain ⟨k, hk, rfl, hsc⟩ := hrel
    by_cases hlt : k < s.size
    · have hd : s.data.toList.drop k = s[k] :: s.data.toList.drop (k + 1) := List.drop_eq_getElem_cons (by rw [← Lib.size_eq]; exact hlt)
      rw [hd] at hsc
      clear hd
      obtain ⟨bt, hbt⟩ : ∃ bt, bt = s[k] := ⟨_, rfl⟩
      rw [← hbt] at hsc
      have hon := fun (h : (bt.toNat : Int) ≠ 58) (h2 : (isL bt.toNat || (k != 0 && isM bt.toNat)) = true) => (schF_on (b := bt) (t := s.data.toList.drop (k + 1)) (i := k) h h2).symm.trans hsc
      have hoff := fun (h : (bt.toNat : Int) ≠ 58) (h2 : (isL bt.toNat || (k != 0 && isM bt.toNat)) = false) => (schF_off (b := bt) (t := s.data.toList.drop (k + 1)) (i := k) h h2).symm.trans hsc
      have hcol := fun (h : (bt.toNat : Int) = 58) => (schF_colon (b := bt) (t := s.data.toList.drop (k + 1)) (i := k) h).symm.trans hsc
      obtain ⟨x, hx⟩ : ∃ x : Int, x = (bt.toNat : Int) := ⟨_, rfl⟩
      rw [← hx] at hon hoff hcol
      have hsx : (((s[k]).toNat : Nat) : Int) = x := by rw [hx, hbt]
      have x0 : 0 ≤ x := by omega
      have x1 : x < 256 := by have := UInt8.toNat_lt bt; omega
      have HON := Lib.hid hon
      have HOFF := Lib.hid hoff
      have HCOL := Lib.hid hcol
      clear hon hoff hcol hbt hx hsc
      by_cases c3 : x = 58
      · have hfin := HCOL.out c3
        have HF := Lib.hid hfin
        have e58 : (x == 58) = true := by rw [beq_iff_eq]; exact c3
        clear hfin c3
        go_wp2_with fail
        go_ret
        exact ⟨ret_int (by rw [← HF.out]), rfl⟩
      have e58 : (x == 58) = false := by rw [beq_eq_false_iff_ne]; exact c3
      cases hL : isL x with
      | true =>
        have hfin : schF (s.data.toList.drop (k + 1)) (k + 1) = N := HON.out (by omega) (by rw [hL]; rfl)
        have HF := Lib.hid hfin
        clear hfin
        go_wp2_with (first | (go_at_call 64; refine (letter_calls _ _).mono ?_; rintro e w' ⟨rfl, rfl⟩) | (go_at_call 65; refine (digit_calls _ _).mono ?_; rintro e w' ⟨rfl, rfl⟩))
        go_round
        case rel => exact ⟨k + 1, by omega, by go_num, HF.out⟩
        case measure => simp [intOf]; omega
      | false =>
        by_cases c0 : k = 0
        · subst c0
          have hfin := HEMP.out (HOFF.out (by omega) (by rw [hL]; rfl)).symm
          have HF := Lib.hid hfin
          clear hfin
          go_wp2_with (first | (go_at_call 64; refine (letter_calls _ _).mono ?_; rintro e w' ⟨rfl, rfl⟩) | (go_at_call 65; refine (digit_calls _ _).mono ?_; rintro e w' ⟨rfl, rfl⟩))
          go_ret
          exact ⟨HF.out, rfl⟩
        have p0 : 0 < k := by omega
        have n0 : ((k : Int) == 0) = false := by rw [beq_eq_false_iff_ne]; omega
        have b0 : (k != 0) = true := by rw [bne_iff_ne]; omega
        have B0 := Lib.hid b0
        clear b0
        cases hD : isD x with
        | true =>
          have hfin : schF (s.data.toList.drop (k + 1)) (k + 1) = N := HON.out (by omega) (by rw [hL, B0.out]; unfold isM; rw [hD]; rfl)
          have HF := Lib.hid hfin
          clear hfin
          go_wp2_with (first | (go_at_call 64; refine (letter_calls _ _).mono ?_; rintro e w' ⟨rfl, rfl⟩) | (go_at_call 65; refine (digit_calls _ _).mono ?_; rintro e w' ⟨rfl, rfl⟩))
          go_round
          case rel => exact ⟨k + 1, by omega, by go_num, HF.out⟩
          case measure => simp [intOf]; omega
        | false =>
          by_cases d43 : x = 43
          · have n43 : (x != 43) = false := by first | (rw [beq_iff_eq]; omega) | (rw [beq_eq_false_iff_ne]; omega) | (rw [bne_iff_ne]; omega) | (rw [bne_eq_false_iff_eq]; omega)
            have n45 : (x != 45) = true := by first | (rw [beq_iff_eq]; omega) | (rw [beq_eq_false_iff_ne]; omega) | (rw [bne_iff_ne]; omega) | (rw [bne_eq_false_iff_eq]; omega)
            have n46 : (x != 46) = true := by first | (rw [beq_iff_eq]; omega) | (rw [beq_eq_false_iff_ne]; omega) | (rw [bne_iff_ne]; omega) | (rw [bne_eq_false_iff_eq]; omega)
            have hfin : schF (s.data.toList.drop (k + 1)) (k + 1) = N := HON.out (by omega) (by rw [hL, B0.out]; unfold isM; rw [hD, d43]; rfl)
            have HF := Lib.hid hfin
            clear hfin d43
            go_wp2_with (first | (go_at_call 64; refine (letter_calls _ _).mono ?_; rintro e w' ⟨rfl, rfl⟩) | (go_at_call 65; refine (digit_calls _ _).mono ?_; rintro e w' ⟨rfl, rfl⟩))
            go_round
            case rel => exact ⟨k + 1, by omega, by go_num, HF.out⟩
            case measure => simp [intOf]; omega
          have n43 : (x != 43) = true := by first | (rw [beq_iff_eq]; omega) | (rw [beq_eq_false_iff_ne]; omega) | (rw [bne_iff_ne]; omega) | (rw [bne_eq_false_iff_eq]; omega)
          by_cases d45 : x = 45
          · have n45 : (x != 45) = false := by first | (rw [beq_iff_eq]; omega) | (rw [beq_eq_false_iff_ne]; omega) | (rw [bne_iff_ne]; omega) | (rw [bne_eq_false_iff_eq]; omega)
            have n46 : (x != 46) = true := by first | (rw [beq_iff_eq]; omega) | (rw [beq_eq_false_iff_ne]; omega) | (rw [bne_iff_ne]; omega) | (rw [bne_eq_false_iff_eq]; omega)
            have hfin : schF (s.data.toList.drop (k + 1)) (k + 1) = N := HON.out (by omega) (by rw [hL, B0.out]; unfold isM; rw [hD, d45]; rfl)
            have HF := Lib.hid hfin
            clear hfin d45
            go_wp2_with (first | (go_at_call 64; refine (letter_calls _ _).mono ?_; rintro e w' ⟨rfl, rfl⟩) | (go_at_call 65; refine (digit_calls _ _).mono ?_; rintro e w' ⟨rfl, rfl⟩))
            go_round
            case rel => exact ⟨k + 1, by omega, by go_num, HF.out⟩
            case measure => simp [intOf]; omega
          have n45 : (x != 45) = true := by first | (rw [beq_iff_eq]; omega) | (rw [beq_eq_false_iff_ne]; omega) | (rw [bne_iff_ne]; omega) | (rw [bne_eq_false_iff_eq]; omega)
          by_cases d46 : x = 46
          · have n46 : (x != 46) = false := by first | (rw [beq_iff_eq]; omega) | (rw [beq_eq_false_iff_ne]; omega) | (rw [bne_iff_ne]; omega) | (rw [bne_eq_false_iff_eq]; omega)
            have hfin : schF (s.data.toList.drop (k + 1)) (k + 1) = N := HON.out (by omega) (by rw [hL, B0.out]; unfold isM; rw [hD, d46]; rfl)
            have HF := Lib.hid hfin
            clear hfin d46
            go_wp2_with (first | (go_at_call 64; refine (letter_calls _ _).mono ?_; rintro e w' ⟨rfl, rfl⟩) | (go_at_call 65; refine (digit_calls _ _).mono ?_; rintro e w' ⟨rfl, rfl⟩))
            go_round
            case rel => exact ⟨k + 1, by omega, by go_num, HF.out⟩
            case measure => simp [intOf]; omega
          have n46 : (x != 46) = true := by first | (rw [beq_iff_eq]; omega) | (rw [beq_eq_false_iff_ne]; omega) | (rw [bne_iff_ne]; omega) | (rw [bne_eq_false_iff_eq]; omega)
          have nm : isM x = false := by
            unfold isM
            have h2 : (x == 43) = false := by rw [beq_eq_false_iff_ne]; exact d43
            have h3 : (x == 45) = false := by rw [beq_eq_false_iff_ne]; exact d45
            have h4 : (x == 46) = false := by rw [beq_eq_false_iff_ne]; exact d46
            rw [hD, h2, h3, h4]; rfl
          have hfin := HEMP.out (HOFF.out (by omega) (by rw [hL, B0.out, nm]; rfl)).symm
          have HF := Lib.hid hfin
          clear hfin nm
          go_wp2_with (first | (go_at_call 64; refine (letter_calls _ _).mono ?_; rintro e w' ⟨rfl, rfl⟩) | (go_at_call 65; refine (digit_calls _ _).mono ?_; rintro e w' ⟨rfl, rfl⟩))
          go_ret
          exact ⟨HF.out, rfl⟩
    · have hfin := HEMP.out (by rw [← hsc, List.drop_of_length_le (by rw [← Lib.size_eq]; omega)]; rfl)
      have HF := Lib.hid hfin
      clear hfin hsc
      go_wp2_with fail
      go_ret
      exact ⟨HF.out, rfl⟩
end Go.Proofs.Ythdkhlkmcebfeaa
