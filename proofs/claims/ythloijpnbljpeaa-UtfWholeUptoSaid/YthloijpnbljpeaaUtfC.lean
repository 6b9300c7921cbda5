/- Check: the program's, the document's. -/
import Derived.Test.YthloijpnbljpeaaUtfRN
set_option linter.unusedVariables false
set_option linter.unusedSimpArgs false
namespace Go.Tk
open Go Go.RowKit
/-- The place at which no scalar stands, of a text that begins at place x; -1: there is none. -/
def chkN : Nat → List UInt8 → Int → Int
  | 0, _, _ => -1
  | f + 1, l, x => if l = [] then -1 else if (dec l).2 = 0 then x else chkN f (l.drop (dec l).2) (x + (dec l).2)
theorem chkN_fuel : ∀ (f g : Nat) (l : List UInt8) (x : Int), l.length ≤ f → l.length ≤ g → chkN f l x = chkN g l x
  | 0, g, l, x, h, _ => by
    obtain rfl : l = [] := List.eq_nil_of_length_eq_zero (by omega)
    cases g <;> simp [chkN]
  | f + 1, 0, l, x, _, h => by
    obtain rfl : l = [] := List.eq_nil_of_length_eq_zero (by omega)
    simp [chkN]
  | f + 1, g + 1, l, x, h1, h2 => by
    simp only [chkN]
    split
    · rfl
    split
    · rfl
    · rename_i h0
      exact chkN_fuel f g _ _ (by simp; omega) (by simp; omega)
def chkF (l : List UInt8) (x : Int) : Int := chkN l.length l x
theorem chkF_step {l : List UInt8} (x : Int) (h : l ≠ []) : chkF l x = if (dec l).2 = 0 then x else chkF (l.drop (dec l).2) (x + (dec l).2) := by
  have hp := List.length_pos_iff.2 h
  obtain ⟨n, hn⟩ : ∃ n, l.length = n + 1 := ⟨l.length - 1, by omega⟩
  unfold chkF
  rw [hn]
  simp only [chkN]
  rw [if_neg h]
  split
  · rfl
  · exact chkN_fuel _ _ _ _ (by simp; omega) (Nat.le_refl _)
theorem chkF_nil (x : Int) : chkF [] x = -1 := rfl
end Go.Tk
namespace Go.Proofs.Ythloijpnbljpeaa
open Go.RowKit Go.Tk
set_option maxHeartbeats 1000000 in
theorem check_calls (s : ByteArray) (w : World) (hs : s.size ≤ 140737488351232) :
    Calls Try.prog 13 #[.string s] w fun e w' => e = .returned (.int .i64 (chkF s.data.toList 0)) ∧ w = w' := by
  obtain ⟨l, hl⟩ : ∃ l, l = s.data.toList := ⟨_, rfl⟩
  have hll : l.length = s.size := by rw [hl, Lib.size_eq]
  rw [← hl]
  have hnx := fun (k : Nat) (w : World) => next_calls s (k : Int) w (by omega)
  simp only [nextI_at] at hnx
  rw [← hl] at hnx
  have HL := Lib.hid hl
  have HLL := Lib.hid hll
  have HNX := Lib.hid hnx
  clear hl hll hnx
  go_enter Try.func13, Try.ntmps13
  go_wp2_with fail
  go_loop [3, 4, 5] (fun x _ _ => ∃ (k : Nat), k ≤ s.size ∧ x = .int .i64 (k : Nat) ∧ chkF (l.drop k) k = chkF l 0) (fun x _ _ => s.size - (intOf x).toNat)
  case atStart => exact ⟨0, Nat.zero_le _, rfl, rfl⟩
  case round =>
    obtain ⟨k, hk, rfl, hc⟩ := hrel
    have HC := Lib.hid hc
    clear hc
    by_cases hlt : k < s.size
    · have hne : l.drop k ≠ [] := by
        intro e
        have h1 : (l.drop k).length = 0 := by rw [e]; rfl
        rw [List.length_drop, HLL.out] at h1
        omega
      have hstep := chkF_step (k : Int) hne
      have hle := dec_le (l.drop k)
      rw [List.length_drop, HLL.out] at hle
      obtain ⟨r, n, hd⟩ : ∃ r n, dec (l.drop k) = (r, n) := ⟨_, _, rfl⟩
      rw [hd] at hstep hle
      simp only at hstep hle
      obtain ⟨hle1, hle2⟩ := hle
      have hcall := fun w => HNX.out k w
      rw [hd] at hcall
      have HCALL := Lib.hid hcall
      have HS := Lib.hid hstep
      clear hne hstep hd hcall
      by_cases hn : n = 0
      · have hb0 : ((n : Int) == 0) = true := by simp [hn]
        have hfin : chkF l 0 = (k : Int) := by rw [← HC.out, HS.out, if_pos hn]
        have HF := Lib.hid hfin
        clear hn hfin
        go_wp2_with (go_at_call 11; refine (HCALL.out _).mono ?_; rintro e w' ⟨rfl, rfl⟩)
        go_ret
        exact ⟨ret_int HF.out.symm, rfl⟩
      · have hb0 : ((n : Int) == 0) = false := by simp [hn]
        have hfin : chkF (l.drop (k + n)) ((k + n : Nat) : Int) = chkF l 0 := by rw [← HC.out, HS.out, if_neg hn, List.drop_drop]; congr 1
        have HF := Lib.hid hfin
        clear hfin
        go_wp2_with (go_at_call 11; refine (HCALL.out _).mono ?_; rintro e w' ⟨rfl, rfl⟩)
        go_round
        case rel => exact ⟨k + n, by omega, by go_num, HF.out⟩
        case measure => simp [intOf]; omega
    · have hfin : chkF l 0 = -1 := by
        rw [← HC.out, List.drop_of_length_le (by rw [HLL.out]; omega)]; rfl
      have HF := Lib.hid hfin
      clear hfin
      go_wp2_with fail
      go_ret
      exact ⟨ret_int HF.out.symm, rfl⟩
set_option maxHeartbeats 1000000 in
theorem rcheck_calls (s : ByteArray) (w : World) (hs : s.size ≤ 140737488351232) :
    Calls Try.prog 14 #[.string s] w fun e w' => e = .returned (.int .i64 (chkF s.data.toList 0)) ∧ Below w.heap.size w w' := by
  obtain ⟨l, hl⟩ : ∃ l, l = s.data.toList := ⟨_, rfl⟩
  have hll : l.length = s.size := by rw [hl, Lib.size_eq]
  rw [← hl]
  have hnx := fun (k : Nat) (w : World) => rnext_calls s (k : Int) w (by omega)
  simp only [nextI_at] at hnx
  rw [← hl] at hnx
  have HL := Lib.hid hl
  have HLL := Lib.hid hll
  have HNX := Lib.hid hnx
  clear hl hll hnx
  go_enter Try.func14, Try.ntmps14
  go_wp2_with fail
  go_loopw [3, 4, 5] (fun x _ _ wr => Below w.heap.size w wr ∧ ∃ (k : Nat), k ≤ s.size ∧ x = .int .i64 (k : Nat) ∧ chkF (l.drop k) k = chkF l 0) (fun x _ _ _ => s.size - (intOf x).toNat)
  case atStart => exact ⟨Below.refl _ _, 0, Nat.zero_le _, rfl, rfl⟩
  case round =>
    obtain ⟨hb, k, hk, rfl, hc⟩ := hrel
    have HC := Lib.hid hc
    clear hc
    have hbz := hb.size
    by_cases hlt : k < s.size
    · have hne : l.drop k ≠ [] := by
        intro e
        have h1 : (l.drop k).length = 0 := by rw [e]; rfl
        rw [List.length_drop, HLL.out] at h1
        omega
      have hstep := chkF_step (k : Int) hne
      have hle := dec_le (l.drop k)
      rw [List.length_drop, HLL.out] at hle
      obtain ⟨r, n, hd⟩ : ∃ r n, dec (l.drop k) = (r, n) := ⟨_, _, rfl⟩
      rw [hd] at hstep hle
      simp only at hstep hle
      obtain ⟨hle1, hle2⟩ := hle
      have hcall := fun w => HNX.out k w
      rw [hd] at hcall
      have HCALL := Lib.hid hcall
      have HS := Lib.hid hstep
      clear hne hstep hd hcall
      by_cases hn : n = 0
      · have hb0 : ((n : Int) == 0) = true := by simp [hn]
        have hfin : chkF l 0 = (k : Int) := by rw [← HC.out, HS.out, if_pos hn]
        have HF := Lib.hid hfin
        clear hn hfin
        go_wp2_with (go_at_call 12; refine (HCALL.out _).mono ?_; rintro e w' ⟨rfl, hb2⟩)
        go_ret
        exact ⟨ret_int HF.out.symm, hb.trans (hb2.mono hb.size)⟩
      · have hb0 : ((n : Int) == 0) = false := by simp [hn]
        have hfin : chkF (l.drop (k + n)) ((k + n : Nat) : Int) = chkF l 0 := by rw [← HC.out, HS.out, if_neg hn, List.drop_drop]; congr 1
        have HF := Lib.hid hfin
        clear hfin
        go_wp2_with (go_at_call 12; refine (HCALL.out _).mono ?_; rintro e w' ⟨rfl, hb2⟩)
        go_roundw
        case rel => exact ⟨hb.trans (hb2.mono hb.size), k + n, by omega, by go_num, HF.out⟩
        case measure => simp [intOf]; omega
    · have hfin : chkF l 0 = -1 := by
        rw [← HC.out, List.drop_of_length_le (by rw [HLL.out]; omega)]; rfl
      have HF := Lib.hid hfin
      clear hfin
      go_wp2_with fail
      go_ret
      exact ⟨ret_int HF.out.symm, hb⟩
end Go.Proofs.Ythloijpnbljpeaa
