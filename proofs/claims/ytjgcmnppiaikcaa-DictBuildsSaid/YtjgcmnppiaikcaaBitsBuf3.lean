/- Buffers: Fixed; the reference's Varint and Fixed. -/
import Derived.Test.YtjgcmnppiaikcaaBitsBuf2
set_option linter.unusedVariables false
set_option linter.unusedSimpArgs false
namespace Go.Proofs.Ytjgcmnppiaikcaa
open Go.RowKit Go.Tk
/-- A row of bytes, new. -/
def NewRow (w : World) (zs : List Int) (e : Ending) (w' : World) : Prop := ∃ v', e = .returned v' ∧ Ow .u8 5 w.heap.size w' v' zs ∧ Kept (fun _ => False) w w'
set_option maxHeartbeats 400000 in
theorem rvarint_calls (w : World) (x : Int) (x0 : 0 ≤ x) (x1 : x < 18446744073709551616) :
    Calls Try.prog 40 #[.int .u64 x] w (NewRow w (vz x)) := by
  go_enter Try.func40, Try.ntmps40
  go_wp2_with fail
  go_loopw [0, 3] (fun nn vv wr => ∃ (m : Int) (zs : List Int), nn = .int .u64 m ∧ 0 ≤ m ∧ m < 18446744073709551616 ∧ Ow .u8 5 w.heap.size wr vv zs ∧ zs ++ vz m = vz x ∧ Kept (fun _ => False) w wr) (fun nn _ _ => (intOf nn).toNat)
  case atStart => exact ⟨x, [], rfl, x0, x1, Ow.nil _ _ _ _, rfl, Kept.refl _ _⟩
  case round =>
    obtain ⟨m, zs, rfl, m0, m1, how, hz, hk⟩ := hrel
    have hzl : zs.length ≤ 10 := by
      have a1 := congrArg List.length hz
      have a2 := vz_len x
      have a3 := vz_len m
      rw [List.length_append] at a1
      omega
    have HZ := Lib.hid hz
    have hsz := hk.size
    clear hz
    by_cases hm : 128 ≤ m
    · go_wp2_with (at_builtin; refine wpList_appJ rfl (.tmp 6) (.tmp 10) _ rfl .u8 w.heap.size 5 _ 1 Try.underlying24 Try.infoU8 rfl _ zs rfl (how.alloc _) _ 1 1 _ rfl (SlI.one _ _ _ _) (by simp) (by omega) (by omega) (by simp; omega) ?_; intro v' w' ow' hg' st')
      have k' : Kept (fun _ => False) w w' := (hk.alloc _).trans (Kept.of_grown hg') (fun i hi => .inr (how.lt i hi).1)
      have e' : (zs ++ [bits .or .u8 (m % 256) 128]) ++ vz (m / 128) = vz x := by
        rw [List.append_assoc]
        have := vz_step hm m1
        show zs ++ (bits .or .u8 (m % 256) 128 :: vz (m / 128)) = vz x
        rw [← this]; exact HZ.out
      have E' := Lib.hid e'
      clear hg' st' e'
      go_wp2
      go_roundw
      case rel => exact ⟨m / 128, _, by go_num, by omega, by omega, ow', E'.out, k'⟩
      case measure => simp [intOf]; omega
    · have hz1 : zs ++ [m] = vz x := by
        have hl1 := vz_last (by omega : m < 128)
        have e2 : m % 256 = m := by omega
        rw [e2] at hl1
        rw [← hl1]; exact HZ.out
      have HZ1 := Lib.hid hz1
      clear hz1
      go_wp2_with (at_builtin; refine wpList_appJ rfl (.tmp 14) (.tmp 17) _ rfl .u8 w.heap.size 5 _ 1 Try.underlying24 Try.infoU8 rfl _ zs rfl (how.alloc _) _ 1 1 _ rfl (SlI.one _ _ _ _) (by simp) (by omega) (by omega) (by simp; omega) ?_; intro v' w' ow' hg' st'; have k' : Kept (fun _ => False) w w' := (hk.alloc _).trans (Kept.of_grown hg') (fun i hi => .inr (how.lt i hi).1); rw [HZ1.out] at ow'; clear hg' st')
      go_ret
      exact ⟨_, rfl, ow', k'⟩
end Go.Proofs.Ytjgcmnppiaikcaa
