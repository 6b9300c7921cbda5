/- Buffers: Fixed; the reference's Varint and Fixed. -/
import Derived.Test.YtgkbkkhlnidigaaBitsBuf2
set_option linter.unusedVariables false
set_option linter.unusedSimpArgs false
namespace Go.Proofs.Ytgkbkkhlnidigaa
open Go.RowKit Go.Tk
/-- A row of bytes, new. -/
def NewRow (w : World) (zs : List Int) (e : Ending) (w' : World) : Prop := ∃ v', e = .returned v' ∧ Ow .u8 5 w.heap.size w' v' zs ∧ Kept (fun _ => False) w w'
set_option maxHeartbeats 400000 in
theorem rvarint_calls (w : World) (x : Int) (x0 : 0 ≤ x) (x1 : x < 18446744073709551616) :
    Calls Try.prog 52 #[.int .u64 x] w (NewRow w (vz x)) := by
  go_enter Try.func52, Try.ntmps52
  go_wp2_with fail
  go_loopw [0, 3] (fun nn vv wr => ∃ (m : Int) (zs : List Int), nn = .int .u64 m ∧ 0 ≤ m ∧ m < 18446744073709551616 ∧ Ow .u8 5 w.heap.size wr vv zs ∧ zs ++ vz m = vz x ∧ Kept (fun _ => False) w wr) (fun nn _ _ => (intOf nn).toNat)
  case atStart => exact ⟨x, [], rfl, x0, x1, Ow.nil _ _ _ _, rfl, Kept.refl _ _⟩
  case round =>
    obtain ⟨m, zs, rfl, m0, m1, how, hz, hk⟩ := hrel
    have hzl : zs.length ≤ 10 := by
      have a1 := congrArg List.length hz
      have a2 := vz_len x
      have a3 := vz_len m
      rw [List.length_append] at a1
      omega
    have HZ := Lib.hid hz
    have hsz := hk.size
    clear hz
    by_cases hm : 128 ≤ m
    · go_wp2_with (at_builtin; refine wpList_appJ rfl (.tmp 6) (.tmp 10) _ rfl .u8 w.heap.size 5 _ 1 Try.underlying22 Try.infoU8 rfl _ zs rfl (how.alloc _) _ 1 1 _ rfl (SlI.one _ _ _ _) (by simp) (by omega) (by omega) (by simp; omega) ?_; intro v' w' ow' hg' st')
      have k' : Kept (fun _ => False) w w' := (hk.alloc _).trans (Kept.of_grown hg') (fun i hi => .inr (how.lt i hi).1)
      have e' : (zs ++ [bits .or .u8 (m % 256) 128]) ++ vz (m / 128) = vz x := by
        rw [List.append_assoc]
        have := vz_step hm m1
        show zs ++ (bits .or .u8 (m % 256) 128 :: vz (m / 128)) = vz x
        rw [← this]; exact HZ.out
      have E' := Lib.hid e'
      clear hg' st' e'
      go_wp2
      go_roundw
      case rel => exact ⟨m / 128, _, by go_num, by omega, by omega, ow', E'.out, k'⟩
      case measure => simp [intOf]; omega
    · have hz1 : zs ++ [m] = vz x := by
        have hl1 := vz_last (by omega : m < 128)
        have e2 : m % 256 = m := by omega
        rw [e2] at hl1
        rw [← hl1]; exact HZ.out
      have HZ1 := Lib.hid hz1
      clear hz1
      go_wp2_with (at_builtin; refine wpList_appJ rfl (.tmp 14) (.tmp 17) _ rfl .u8 w.heap.size 5 _ 1 Try.underlying22 Try.infoU8 rfl _ zs rfl (how.alloc _) _ 1 1 _ rfl (SlI.one _ _ _ _) (by simp) (by omega) (by omega) (by simp; omega) ?_; intro v' w' ow' hg' st'; have k' : Kept (fun _ => False) w w' := (hk.alloc _).trans (Kept.of_grown hg') (fun i hi => .inr (how.lt i hi).1); rw [HZ1.out] at ow'; clear hg' st')
      go_ret
      exact ⟨_, rfl, ow', k'⟩
set_option maxHeartbeats 400000 in
theorem rfixed_calls (w : World) (x k : Int) (x0 : 0 ≤ x) (x1 : x < 18446744073709551616) (k0 : -9223372036854775808 ≤ k) (k1 : k ≤ 9223372036854775807) :
    Calls Try.prog 53 #[.int .u64 x, .int .i64 k] w (NewRow w (fz x (oct k))) := by
  have ho := oct_le k
  go_enter Try.func53, Try.ntmps53
  go_wp2_with fail
  go_loopw [5, 6] (fun vv nn wr => ∃ (j : Nat), nn = .int .i64 j ∧ j ≤ oct k ∧ Ow .u8 5 w.heap.size wr vv (fz x j) ∧ Kept (fun _ => False) w wr) (fun _ nn _ => oct k - (intOf nn).toNat)
  case atStart => exact ⟨0, rfl, by omega, Ow.nil _ _ _ _, Kept.refl _ _⟩
  case round =>
    obtain ⟨j, rfl, hj, how, hk⟩ := hrel
    have hsz := hk.size
    have hfb : (fz x j).length ≤ 8 := by rw [fz_len]; omega
    by_cases hm : j < oct k
    · have hx : SlI .u8 (wr.alloc (.cells #[.int .u8 (x / 2 ^ (8 * j) % 256)] 5)) (some ⟨wr.heap.size, 0, none⟩) 1 1 [x / 2 ^ (8 * j) % 256] := SlI.one _ _ _ _
      go_wp2_with (first
        | (go_at_call 68; refine (roct_calls k _ k0 k1).mono ?_; rintro e w1 ⟨rfl, rfl⟩)
        | (at_builtin; (refine wpList_appJ rfl (.tmp 13) (.tmp 19) _ rfl .u8 w.heap.size 5 _ 1 Try.underlying22 Try.infoU8 rfl _ _ rfl (how.alloc _) _ 1 1 _ rfl hx (by simp) (by omega) (by omega) (by simp; omega) ?_; intro v' w' ow' hg' st')))
      have k' : Kept (fun _ => False) w w' := (hk.alloc _).trans (Kept.of_grown hg') (fun i hi => .inr (how.lt i hi).1)
      clear hg' st'
      go_wp2
      go_roundw
      case rel => exact ⟨j + 1, by simp, by omega, ow', k'⟩
      case measure => simp [intOf]; omega
    · go_wp2_with (go_at_call 68; refine (roct_calls k _ k0 k1).mono ?_; rintro e w1 ⟨rfl, rfl⟩)
      go_ret
      obtain rfl : j = oct k := by omega
      exact ⟨_, rfl, how, hk⟩
set_option maxHeartbeats 400000 in
theorem fixed_calls (w : World) (base b : Nat) (most : Int) (st : List Int × Bool) (v : Value) (h : BufB w base b most st v) (x k : Int) (x0 : 0 ≤ x) (x1 : x < 18446744073709551616) (k0 : -9223372036854775808 ≤ k) (k1 : k ≤ 9223372036854775807) (h0 : 0 ≤ most) (h1 : most ≤ 9223372036854775807) (hb : st.1.length + 10 ≤ 140737488355328) :
    Calls Try.prog 35 #[.pointer (some ⟨b, 0, none⟩), .int .u64 x, .int .i64 k] w (PutBufB w base b most (putF most st (fz x (oct k))) v) := by
  have ho := oct_le k
  go_enter Try.func35, Try.ntmps35
  go_wp2_with (go_at_call 63; refine (oct_calls k _ k0 k1).mono ?_; rintro e w1 ⟨rfl, rfl⟩)
  go_loopw [6, 10] (fun vv nn wr => ∃ (j : Nat), nn = .int .i64 j ∧ j ≤ oct k ∧ Ow .u8 5 w.heap.size wr vv (fz x j) ∧ Kept (fun _ => False) w wr) (fun _ nn _ => oct k - (intOf nn).toNat)
  case atStart => exact ⟨0, rfl, by omega, Ow.nil _ _ _ _, Kept.refl _ _⟩
  case round =>
    obtain ⟨j, rfl, hj, how, hk⟩ := hrel
    have hsz := hk.size
    have hfb : (fz x j).length ≤ 8 := by rw [fz_len]; omega
    by_cases hm : j < oct k
    · have hx : SlI .u8 (wr.alloc (.cells #[.int .u8 (x / 2 ^ (8 * j) % 256)] 5)) (some ⟨wr.heap.size, 0, none⟩) 1 1 [x / 2 ^ (8 * j) % 256] := SlI.one _ _ _ _
      go_wp2_with (at_builtin; refine wpList_appJ rfl (.tmp 13) (.tmp 19) _ rfl .u8 w.heap.size 5 _ 1 Try.underlying22 Try.infoU8 rfl _ _ rfl (how.alloc _) _ 1 1 _ rfl hx (by simp) (by omega) (by omega) (by simp; omega) ?_; intro v' w' ow' hg' st')
      have k' : Kept (fun _ => False) w w' := (hk.alloc _).trans (Kept.of_grown hg') (fun i hi => .inr (how.lt i hi).1)
      clear hg' st'
      go_wp2
      go_roundw
      case rel => exact ⟨j + 1, by simp, by omega, ow', k'⟩
      case measure => simp [intOf]; omega
    · obtain ⟨va, vc, rfl, sv, _⟩ := how.sl
      have hn : va = none → vc = 0 := fun e => by subst e; exact how.nil_cap
      have hB := h.kept hk (fun _ _ h => h)
      obtain rfl : j = oct k := by omega
      have HN := Lib.hid hn
      clear hn
      go_wp2_with (go_at_call 33; refine (raw_calls _ _ _ _ _ _ hB _ _ _ _ sv HN.out h0 h1 (by omega)).mono ?_; rintro e w1 ⟨v', rfl, hp⟩)
      go_end0
      exact PutBufB.of_alloc hk ⟨v', rfl, hp⟩
end Go.Proofs.Ytgkbkkhlnidigaa
