/- lent, back, num; padded, count of the program. -/
import Derived.Test.YtgajpekolamjbaaRkQ
import Derived.Test.YtgajpekolamjbaaSamesameB2
import Derived.Test.YtgajpekolamjbaaTypes
import Derived.Test.YtgajpekolamjbaaSlc
import Derived.Test.YtgajpekolamjbaaShelf
import Derived.Test.YtgajpekolamjbaaRankSize
set_option linter.unusedVariables false
set_option linter.unusedSimpArgs false
namespace Go.Proofs.Ytgajpekolamjbaa
open Go.RowKit Go.Tk
theorem padded_calls (w : World) (a : Option Addr) (n c : Nat) (d : List UInt8) (N : Nat) (h : SlI .u8 w a n c (nums d)) (hl : d.length = (N + 7) / 8) (hN : N ≤ 67108864) :
    Calls Try.prog 80 #[.slice a n c, .int .i64 (N : Nat)] w fun e w' => e = .returned (.bool (padB d N)) ∧ w = w' := by
  have hnl := h.len
  rw [nums_len] at hnl
  by_cases h8 : N % 8 = 0
  · have e : padB d N = true := by unfold padB; simp [h8]
    have e1 : ((N : Int) % 8 == 0) = true := by simp; omega
    rw [e]
    clear e h h8 hl hnl
    go_enter Try.func80, Try.ntmps80
    go_wp2
    go_ret
    exact ⟨rfl, rfl⟩
  · have e1 : ((N : Int) % 8 == 0) = false := by simp; omega
    obtain ⟨b, o, rfl, hc⟩ := h.cell (N / 8) (by omega)
    rw [nums_getD d _ (by omega)] at hc
    go_enter Try.func80, Try.ntmps80
    go_wp2
    go_ret
    refine ⟨ret_bool ?_, rfl⟩
    have hg : d.getD (N / 8) 0 = d[N / 8]'(by omega) := by rw [List.getD_eq_getElem?_getD, List.getElem?_eq_getElem (by omega)]; rfl
    unfold padB
    rw [hg, show (N % 8 == 0) = false by simp [h8], Bool.false_or]
    have e : (((d[N / 8]'(by omega)).toNat : Nat) : Int) / 2 ^ (N % 8) = (((d[N / 8]'(by omega)).toNat / 2 ^ (N % 8) : Nat) : Int) := by rw [Int.natCast_ediv, Int.natCast_pow]; rfl
    rw [e]
    rw [Bool.eq_iff_iff]
    simp only [beq_iff_eq]
    omega
set_option maxHeartbeats 1000000 in
theorem count_calls (w : World) (a : Option Addr) (n c : Nat) (d : List UInt8) (h : SlI .u8 w a n c (nums d)) (hn : n ≤ 140737488351232) :
    Calls Try.prog 81 #[.slice a n c] w fun e w' => e = .returned (.int .i64 (cntB d (8 * n) : Nat)) ∧ w = w' := by
  have hnl := h.len
  rw [nums_len] at hnl
  have H := Lib.hid h
  have HNL := Lib.hid hnl
  clear h hnl
  go_enter Try.func81, Try.ntmps81
  go_wp2
  go_loop [3, 8] (fun mv iv => ∃ i : Nat, iv = .int .i64 (i : Nat) ∧ i ≤ n ∧ mv = .int .i64 (cntB d (8 * i) : Nat)) (fun _ iv => n - (intOf iv).toNat)
  case atStart => exact ⟨0, rfl, Nat.zero_le _, rfl⟩
  case round =>
    obtain ⟨i, rfl, hi, rfl⟩ := hrel
    by_cases hin : i < n
    · obtain ⟨b, o, rfl, hc⟩ := H.out.cell i hin
      rw [nums_getD d _ (by rw [HNL.out]; exact hin)] at hc
      have hcb := cnt_byte d i
      have hg : d.getD i 0 = d[i]'(by rw [HNL.out]; exact hin) := by rw [List.getD_eq_getElem?_getD, List.getElem?_eq_getElem (by rw [HNL.out]; exact hin)]; rfl
      rw [hg] at hcb
      have hle := cnt_le d (8 * i)
      have hle2 := cnt_le d (8 * i + 8)
      obtain ⟨y, hy⟩ : ∃ y : Nat, y = (d[i]'(by rw [HNL.out]; exact hin)).toNat := ⟨_, rfl⟩
      rw [← hy] at hc hcb
      have hy2 : y ≤ 255 := by have := UInt8.toNat_lt (d[i]'(by rw [HNL.out]; exact hin)); omega
      obtain ⟨t, ht⟩ : ∃ t, t = Lib.onesCount y := ⟨_, rfl⟩
      have hcall := fun w => Try.bits_OnesCount8 (y : Int) w (by omega) (by omega)
      rw [Int.toNat_natCast, ← ht] at hcall
      rw [← ht] at hcb
      have HCB := Lib.hid hcb
      have HCALL := Lib.hid hcall
      have htb : cntB d (8 * i) + t ≤ 8 * i + 8 := by omega
      generalize cntB d (8 * i) = m at htb hcb HCB hle ⊢
      clear hcb hcall hy ht hle2 hg
      go_wp2_with (go_at_call 101; refine (HCALL.out _).mono ?_; rintro e w1 ⟨rfl, rfl⟩)
      go_round
      case rel => exact ⟨i + 1, by go_num, by omega, by rw [show 8 * (i + 1) = 8 * i + 8 by omega, HCB.out]; go_num⟩
      case measure => simp [intOf]; omega
    · obtain rfl : i = n := by omega
      go_wp2
      go_ret
      exact ⟨rfl, rfl⟩
end Go.Proofs.Ytgajpekolamjbaa
