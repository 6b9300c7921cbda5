/- The document's Count. -/
import Derived.Test.YtpphjiialgmidaaRkG
set_option linter.unusedVariables false
set_option linter.unusedSimpArgs false
namespace Go.Proofs.Ytpphjiialgmidaa
open Go.RowKit Go.Tk
set_option maxHeartbeats 1000000 in
theorem rcount_calls (w : World) (a : Option Addr) (n c : Nat) (d : List UInt8) (N : Nat) (h : SlI .u8 w a n c (nums d)) (hN : N ≤ 67108864) (hl : N ≤ 8 * d.length) :
    Calls Try.prog 51 #[.slice a n c, .int .i64 (N : Nat)] w fun e w' => e = .returned (.int .i64 (cntB d N : Nat)) ∧ w = w' := by
  have hb := fun (i : Nat) (hi : i < N) => bit_calls w a n c d i h (by omega) (by omega)
  have HB := Lib.hid hb
  clear h hb
  go_enter Try.func51, Try.ntmps51
  go_wp2
  go_loop [5, 6] (fun mv iv => ∃ i m : Nat, iv = .int .i64 (i : Nat) ∧ i ≤ N ∧ mv = .int .i64 (m : Nat) ∧ m = cntB d i) (fun _ iv => N - (intOf iv).toNat)
  case atStart => exact ⟨0, 0, rfl, Nat.zero_le _, rfl, rfl⟩
  case round =>
    obtain ⟨i, m, rfl, hi, rfl, hm⟩ := hrel
    have hcm := cnt_le d i
    rw [← hm] at hcm
    have HM := Lib.hid hm
    clear hm
    by_cases hin : i < N
    · have hbi := HB.out i hin
      have hs : cntB d (i + 1) = cntB d i + (if btB d i = true then 1 else 0) := rfl
      obtain ⟨B, hB⟩ : ∃ B, B = btB d i := ⟨_, rfl⟩
      rw [← hB] at hbi hs
      have HBI := Lib.hid hbi
      have HS := Lib.hid hs
      clear hbi hs hB
      cases B with
      | true =>
        go_wp2_with (go_at_call 36; (with_reducible refine HBI.out.mono ?_); rintro e wz ⟨rfl, rfl⟩)
        go_round
        case rel => exact ⟨i + 1, m + 1, by go_num, by omega, by go_num, by rw [HS.out, HM.out]; rfl⟩
        case measure => simp [intOf]; omega
      | false =>
        go_wp2_with (go_at_call 36; (with_reducible refine HBI.out.mono ?_); rintro e wz ⟨rfl, rfl⟩)
        go_round
        case rel => exact ⟨i + 1, m, by go_num, by omega, rfl, by rw [HS.out, HM.out]; rfl⟩
        case measure => simp [intOf]; omega
    · obtain rfl : i = N := by omega
      go_wp2
      go_ret
      exact ⟨ret_int (by rw [HM.out]), rfl⟩
end Go.Proofs.Ytpphjiialgmidaa
