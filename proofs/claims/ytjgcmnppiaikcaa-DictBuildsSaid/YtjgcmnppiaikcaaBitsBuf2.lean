/- Buffers: Byte, Varint, Fixed, Len, Bytes, New; the reference's. -/
import Derived.Test.YtjgcmnppiaikcaaBitsBuf
import Derived.Test.YtjgcmnppiaikcaaBitsNum
set_option linter.unusedVariables false
set_option linter.unusedSimpArgs false
namespace Go.Proofs.Ytjgcmnppiaikcaa
open Go.RowKit Go.Tk
theorem PutBufB.of_alloc {w w0 : World} {base b : Nat} {most : Int} {st : List Int × Bool} {v : Value} {e : Ending} {w' : World} (hk : Kept (fun _ => False) w w0) (h : PutBufB w0 base b most st v e w') : PutBufB w base b most st v e w' := by
  obtain ⟨v', he, hB, hK, hs⟩ := h
  refine ⟨v', he, hB, (hk.mono (T := Fp b v) (fun _ h => h.elim)).trans hK (fun i hi => .inl hi), ?_⟩
  rcases hs with h1 | ⟨g, h1, h2⟩
  · exact .inl h1
  · exact .inr ⟨g, h1, Nat.le_trans hk.size h2⟩
set_option maxHeartbeats 400000 in
theorem varint_calls (w : World) (base b : Nat) (most : Int) (st : List Int × Bool) (v : Value) (h : BufB w base b most st v) (x : Int) (x0 : 0 ≤ x) (x1 : x < 18446744073709551616) (h0 : 0 ≤ most) (h1 : most ≤ 9223372036854775807) (hb : st.1.length + 10 ≤ 140737488355328) :
    Calls Try.prog 32 #[.pointer (some ⟨b, 0, none⟩), .int .u64 x] w (PutBufB w base b most (putF most st (vz x)) v) := by
  go_enter Try.func32, Try.ntmps32
  go_wp2_with fail
  go_loopw [1, 4] (fun nn vv wr => ∃ (m : Int) (zs : List Int), nn = .int .u64 m ∧ 0 ≤ m ∧ m < 18446744073709551616 ∧ Ow .u8 5 w.heap.size wr vv zs ∧ zs ++ vz m = vz x ∧ Kept (fun _ => False) w wr) (fun nn _ _ => (intOf nn).toNat)
  case atStart => exact ⟨x, [], rfl, x0, x1, Ow.nil _ _ _ _, rfl, Kept.refl _ _⟩
  case round =>
    obtain ⟨m, zs, rfl, m0, m1, how, hz, hk⟩ := hrel
    have hzl : zs.length ≤ 10 := by
      have a1 := congrArg List.length hz
      have a2 := vz_len x
      have a3 := vz_len m
      rw [List.length_append] at a1
      omega
    have HZ := Lib.hid hz
    have hsz := hk.size
    clear hz
    by_cases hm : 128 ≤ m
    · go_wp2_with (at_builtin; refine wpList_appJ rfl (.tmp 7) (.tmp 11) _ rfl .u8 w.heap.size 5 _ 1 Try.underlying24 Try.infoU8 rfl _ zs rfl (how.alloc _) _ 1 1 _ rfl (SlI.one _ _ _ _) (by simp) (by omega) (by omega) (by simp; omega) ?_; intro v' w' ow' hg' st')
      have k' : Kept (fun _ => False) w w' := (hk.alloc _).trans (Kept.of_grown hg') (fun i hi => .inr (how.lt i hi).1)
      have e' : (zs ++ [bits .or .u8 (m % 256) 128]) ++ vz (m / 128) = vz x := by
        rw [List.append_assoc]
        have := vz_step hm m1
        show zs ++ (bits .or .u8 (m % 256) 128 :: vz (m / 128)) = vz x
        rw [← this]; exact HZ.out
      have E' := Lib.hid e'
      clear hg' st' e'
      go_wp2
      go_roundw
      case rel => exact ⟨m / 128, _, by go_num, by omega, by omega, ow', E'.out, k'⟩
      case measure => simp [intOf]; omega
    · have hz1 : zs ++ [m] = vz x := by
        have hl1 := vz_last (by omega : m < 128)
        have e2 : m % 256 = m := by omega
        rw [e2] at hl1
        rw [← hl1]; exact HZ.out
      have hl := vz_len x
      have HZ1 := Lib.hid hz1
      clear hz1
      go_wp2_with (first
        | (at_builtin; refine wpList_appJ rfl (.tmp 16) (.tmp 19) _ rfl .u8 w.heap.size 5 _ 1 Try.underlying24 Try.infoU8 rfl _ zs rfl (how.alloc _) _ 1 1 _ rfl (SlI.one _ _ _ _) (by simp) (by omega) (by omega) (by simp; omega) ?_; intro v' w' ow' hg' st'; have k' : Kept (fun _ => False) w w' := (hk.alloc _).trans (Kept.of_grown hg') (fun i hi => .inr (how.lt i hi).1); rw [HZ1.out] at ow'; obtain ⟨va, vc, rfl, sv, _⟩ := ow'.sl; have hB := h.kept k' (fun _ _ h => h); have hn : va = none → vc = 0 := (fun e => by subst e; exact ow'.nil_cap); clear hg' st')
        | (go_at_call 33; refine (raw_calls _ _ _ _ _ _ hB _ _ _ _ sv hn h0 h1 (by omega)).mono ?_; rintro e w1 ⟨v', rfl, hp⟩))
      go_end0
      exact PutBufB.of_alloc k' ⟨v', rfl, hp⟩
end Go.Proofs.Ytjgcmnppiaikcaa
