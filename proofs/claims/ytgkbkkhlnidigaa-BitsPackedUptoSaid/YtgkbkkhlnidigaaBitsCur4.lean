/- Cursors: Byte. -/
import Derived.Test.YtgkbkkhlnidigaaBitsCur3
set_option linter.unusedVariables false
set_option linter.unusedSimpArgs false
namespace Go.Proofs.Ytgkbkkhlnidigaa
open Go.RowKit Go.Tk
theorem tk_one (z : List Int) (i : Nat) (e : Int) : (tk z i e 1).1 = [] ∨ ∃ x, (tk z i e 1).1 = [x] := by
  have : (tk z i e 1).1.length ≤ 1 := by
    unfold tk
    split
    · simp
    · split
      · simp
      · simp; omega
  match h : (tk z i e 1).1, this with
  | [], _ => exact .inl rfl
  | [x], _ => exact .inr ⟨x, rfl⟩
theorem cbyte_calls (w : World) (c : Nat) (a : Option Addr) (cap : Nat) (z : List Int) (i : Nat) (e : Int) (h : CurC w c a cap z i e) :
    Calls Try.prog 38 #[.pointer (some ⟨c, 0, none⟩)] w fun e' w' => e' = .returned (.int .u8 ((tk z i e 1).1.getD 0 0)) ∧ CurC w' c a cap z (tk z i e 1).2.1 (tk z i e 1).2.2 ∧ Kept (fun k => k = c) w w' := by
  have hT := take_calls w c a cap z i e 1 h
  have h1 := tk_one z i e
  generalize tk z i e 1 = t at *
  obtain ⟨l, j, e2⟩ := t
  simp only at h1
  rcases h1 with rfl | ⟨x, rfl⟩
  · go_enter Try.func38, Try.ntmps38
    go_wp2_with (go_at_call 66; refine hT.mono ?_; rintro e' w1 ⟨a', c', rfl, hs, hn, hC, hk⟩; clear hn)
    go_loopw [8] (fun iv wr => iv = .int .i64 0 ∧ CurC wr c a cap z j e2 ∧ Kept (fun k => k = c) w wr) (fun _ _ => 0)
    case atStart => exact ⟨rfl, hC, hk⟩
    case round =>
      obtain ⟨rfl, hC2, hk2⟩ := hrel
      go_wp2
      go_ret
      exact ⟨rfl, hC2, hk2⟩
  · go_enter Try.func38, Try.ntmps38
    go_wp2_with (go_at_call 66; refine hT.mono ?_; rintro e' w1 ⟨a', c', rfl, hs, hn, hC, hk⟩; clear hn)
    go_loopw [8] (fun iv wr => iv = .int .i64 0 ∧ CurC wr c a cap z j e2 ∧ SlI .u8 wr a' 1 c' [x] ∧ Kept (fun k => k = c) w wr) (fun _ _ => 0)
    case atStart => exact ⟨rfl, hC, hs, hk⟩
    case round =>
      obtain ⟨rfl, hC2, hs2, hk2⟩ := hrel
      obtain ⟨b, o, rfl, hc0⟩ := hs2.cell 0 (by omega)
      have hc1 : wr.cell? ⟨b, o, none⟩ = some (.int .u8 x) := by simpa using hc0
      clear hc0
      go_wp2
      go_ret
      exact ⟨rfl, hC2, hk2⟩
theorem rbyte_calls (w : World) (c : Nat) (a : Option Addr) (cap : Nat) (z : List Int) (i : Nat) (e : Int) (h : CurR w c a cap z i e) (hz : z.length ≤ 140737488355328) (ha : ∀ x, a = some x → x.block < w.heap.size) :
    Calls Try.prog 55 #[.pointer (some ⟨c, 0, none⟩)] w fun e' w' => e' = .returned (.int .u8 ((tk z i e 1).1.getD 0 0)) ∧ CurR w' c a cap z (tk z i e 1).2.1 (tk z i e 1).2.2 ∧ Kept (fun k => k = c) w w' := by
  have hT := rraw_calls w c a cap z i e 1 h hz ha
  have h1 := tk_one z i e
  generalize tk z i e 1 = t at *
  obtain ⟨l, j, e2⟩ := t
  simp only at h1
  rcases h1 with rfl | ⟨x, rfl⟩
  · go_enter Try.func55, Try.ntmps55
    go_wp2_with (go_at_call 56; refine hT.mono ?_; rintro e' w1 ⟨v', rfl, ow, hC, hk⟩; obtain ⟨va, vc, rfl, hs, _⟩ := ow.sl)
    go_ret
    exact ⟨rfl, hC, hk⟩
  · go_enter Try.func55, Try.ntmps55
    go_wp2_with (go_at_call 56; refine hT.mono ?_; rintro e' w1 ⟨v', rfl, ow, hC, hk⟩; obtain ⟨va, vc, rfl, hs, _⟩ := ow.sl; obtain ⟨b, o, rfl, hc0⟩ := hs.cell 0 (by simp); have hc1 : w1.cell? ⟨b, o, none⟩ = some (.int .u8 x) := (by simpa using hc0); clear hc0)
    go_ret
    exact ⟨rfl, hC, hk⟩
end Go.Proofs.Ytgkbkkhlnidigaa
