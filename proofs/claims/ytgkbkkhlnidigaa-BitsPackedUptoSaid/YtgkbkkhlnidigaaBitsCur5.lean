/- Cursors: Fixed. -/
import Derived.Test.YtgkbkkhlnidigaaBitsCur4
set_option linter.unusedVariables false
set_option linter.unusedSimpArgs false
namespace Go.Proofs.Ytgkbkkhlnidigaa
open Go.RowKit Go.Tk
/-- The number of so many first bytes. -/
def fxA (l : List Int) : Nat → Int
  | 0 => 0
  | k + 1 => bits .or .u64 (fxA l k) (IntKind.u64.wrap (l.getD k 0 * 2 ^ (8 * k)))
theorem tk_fix (z : List Int) (i : Nat) (e : Int) (k : Nat) (hz : ∀ x ∈ z, 0 ≤ x ∧ x < 256) : (tk z i e k).1.length ≤ k ∧ ∀ x ∈ (tk z i e k).1, 0 ≤ x ∧ x < 256 := by
  unfold tk
  split
  · simp
  · split
    · simp
    · refine ⟨by simp; omega, fun x hx => hz x (List.mem_of_mem_drop (List.mem_of_mem_take hx))⟩
set_option maxHeartbeats 1000000 in
theorem cfixed_calls (w : World) (c : Nat) (a : Option Addr) (cap : Nat) (z : List Int) (i : Nat) (e k : Int) (h : CurC w c a cap z i e) (k0 : -9223372036854775808 ≤ k) (k1 : k ≤ 9223372036854775807) (hz : ∀ x ∈ z, 0 ≤ x ∧ x < 256) :
    Calls Try.prog 41 #[.pointer (some ⟨c, 0, none⟩), .int .i64 k] w fun e' w' => e' = .returned (.int .u64 (fxA (tk z i e (oct k : Nat)).1 (tk z i e (oct k : Nat)).1.length)) ∧ CurC w' c a cap z (tk z i e (oct k : Nat)).2.1 (tk z i e (oct k : Nat)).2.2 ∧ Kept (fun k => k = c) w w' := by
  have hT := take_calls w c a cap z i e (oct k : Nat) h
  have h1 := tk_fix z i e (oct k) hz
  have ho := oct_le k
  generalize tk z i e (oct k : Nat) = t at *
  obtain ⟨l, j, e2⟩ := t
  obtain ⟨hl8, hlz⟩ := h1
  simp only at hl8 hlz
  go_enter Try.func41, Try.ntmps41
  go_wp2_with (first
    | (go_at_call 63; refine (oct_calls k _ k0 k1).mono ?_; rintro e w1 ⟨rfl, rfl⟩)
    | (go_at_call 66; refine hT.mono ?_; rintro e' w1 ⟨a', c', rfl, hs, hn, hC, hk⟩; clear hn))
  go_loopw [5, 13] (fun nv iv wr => ∃ (q : Nat), iv = .int .i64 q ∧ q ≤ l.length ∧ nv = .int .u64 (fxA l q) ∧ CurC wr c a cap z j e2 ∧ SlI .u8 wr a' l.length c' l ∧ Kept (fun k => k = c) w wr) (fun _ iv _ => l.length - (intOf iv).toNat)
  case atStart => exact ⟨0, rfl, by omega, rfl, hC, hs, hk⟩
  case round =>
    obtain ⟨q, rfl, hq, rfl, hC2, hs2, hk2⟩ := hrel
    by_cases hm : q < l.length
    · obtain ⟨b, o, rfl, hc0⟩ := hs2.cell q hm
      obtain ⟨x, hx⟩ : ∃ x, x = l.getD q 0 := ⟨_, rfl⟩
      have hxr : 0 ≤ x ∧ x < 256 := by rw [hx]; exact hlz _ (by simp [hm])
      have hst : fxA l (q + 1) = bits .or .u64 (fxA l q) (IntKind.u64.wrap (x * 2 ^ (8 * q))) := by rw [hx]; rfl
      have hc1 : wr.cell? ⟨b, o + q, none⟩ = some (.int .u8 x) := by rw [hc0, hx]
      have hx0 := hxr.1
      have hx1 := hxr.2
      have HS := Lib.hid hst
      clear hc0 hst hx hxr
      go_wp2
      go_roundw
      case rel => exact ⟨q + 1, by simp, by omega, by rw [HS.out], hC2, hs2, hk2⟩
      case measure => simp [intOf]; omega
    · obtain rfl : q = l.length := by omega
      go_wp2
      go_ret
      exact ⟨rfl, hC2, hk2⟩
set_option maxHeartbeats 1000000 in
theorem rcfixed_calls (w : World) (c : Nat) (a : Option Addr) (cap : Nat) (z : List Int) (i : Nat) (e k : Int) (h : CurR w c a cap z i e) (k0 : -9223372036854775808 ≤ k) (k1 : k ≤ 9223372036854775807) (hz : ∀ x ∈ z, 0 ≤ x ∧ x < 256) (hzl : z.length ≤ 140737488355328) (ha : ∀ x, a = some x → x.block < w.heap.size) :
    Calls Try.prog 58 #[.pointer (some ⟨c, 0, none⟩), .int .i64 k] w fun e' w' => e' = .returned (.int .u64 (fxA (tk z i e (oct k : Nat)).1 (tk z i e (oct k : Nat)).1.length)) ∧ CurR w' c a cap z (tk z i e (oct k : Nat)).2.1 (tk z i e (oct k : Nat)).2.2 ∧ Kept (fun k => k = c) w w' := by
  have hT := rraw_calls w c a cap z i e (oct k : Nat) h hzl ha
  have h1 := tk_fix z i e (oct k) hz
  have ho := oct_le k
  generalize tk z i e (oct k : Nat) = t at *
  obtain ⟨l, j, e2⟩ := t
  obtain ⟨hl8, hlz⟩ := h1
  simp only at hl8 hlz
  go_enter Try.func58, Try.ntmps58
  go_wp2_with (first
    | (go_at_call 68; refine (roct_calls k _ k0 k1).mono ?_; rintro e w1 ⟨rfl, rfl⟩)
    | (go_at_call 56; refine hT.mono ?_; rintro e' w1 ⟨v', rfl, ow, hC, hk⟩; obtain ⟨a', c', rfl, hs, _⟩ := ow.sl))
  go_loopw [6, 7] (fun nv iv wr => ∃ (q : Nat), iv = .int .i64 q ∧ q ≤ l.length ∧ nv = .int .u64 (fxA l q) ∧ CurR wr c a cap z j e2 ∧ SlI .u8 wr a' l.length c' l ∧ Kept (fun k => k = c) w wr) (fun _ iv _ => l.length - (intOf iv).toNat)
  case atStart => exact ⟨0, rfl, by omega, rfl, hC, hs, hk⟩
  case round =>
    obtain ⟨q, rfl, hq, rfl, hC2, hs2, hk2⟩ := hrel
    by_cases hm : q < l.length
    · obtain ⟨b, o, rfl, hc0⟩ := hs2.cell q hm
      obtain ⟨x, hx⟩ : ∃ x, x = l.getD q 0 := ⟨_, rfl⟩
      have hxr : 0 ≤ x ∧ x < 256 := by rw [hx]; exact hlz _ (by simp [hm])
      have hst : fxA l (q + 1) = bits .or .u64 (fxA l q) (IntKind.u64.wrap (x * 2 ^ (8 * q))) := by rw [hx]; rfl
      have hc1 : wr.cell? ⟨b, o + q, none⟩ = some (.int .u8 x) := by rw [hc0, hx]
      have hx0 := hxr.1
      have hx1 := hxr.2
      have HS := Lib.hid hst
      clear hc0 hst hx hxr
      go_wp2
      go_roundw
      case rel => exact ⟨q + 1, by simp, by omega, by rw [HS.out], hC2, hs2, hk2⟩
      case measure => simp [intOf]; omega
    · obtain rfl : q = l.length := by omega
      go_wp2
      go_ret
      exact ⟨rfl, hC2, hk2⟩
end Go.Proofs.Ytgkbkkhlnidigaa
