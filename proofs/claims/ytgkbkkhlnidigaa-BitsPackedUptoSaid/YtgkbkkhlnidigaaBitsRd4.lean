/- What 'read' does at a Raw; all kinds. -/
import Derived.Test.YtgkbkkhlnidigaaBitsRd3
import Derived.Test.YtgkbkkhlnidigaaBitsOps
set_option linter.unusedVariables false
set_option linter.unusedSimpArgs false
namespace Go.Proofs.Ytgkbkkhlnidigaa
open Go.RowKit Go.Tk
set_option maxRecDepth 100000 in
set_option maxHeartbeats 1000000 in
theorem read2 (w : World) (c r : Nat) (a1 : Option Addr) (p1 : Nat) (a2 : Option Addr) (p2 : Nat) (z : List Int) (i : Nat) (e : Int) (h : CP w c r a1 p1 a2 p2 z i e) (hz : z.length ≤ 140737488355328) (ha : ∀ x, a2 = some x → x.block < w.heap.size) (ha1 : ∀ x, a1 = some x → x.block < w.heap.size) (n k : Int) (ba : Option Addr) (bl bc : Nat) (two : Bool) :
    Calls Try.prog 27 #[.pointer (some ⟨c, 0, none⟩), .pointer (some ⟨r, 0, none⟩), .agg #[.int .i64 2, .int .u64 n, .int .i64 k, .slice ba bl bc, .bool two]] w (ReadP w c r a1 p1 a2 p2 z (tk z i e k).2.1 (tk z i e k).2.2) := by
  have ka : Kept (fun _ => False) w (w.alloc (.cells #[.int .i64 2, .int .u64 n, .int .i64 k, .slice ba bl bc, .bool two] 53)) := (Kept.refl _ w).alloc _
  have h' := h.kept ka (fun h => h) (fun h => h) (fun _ _ h => h) (fun _ _ h => h)
  have za := ka.size
  have hbx : BoxO (w.alloc (.cells #[.int .i64 2, .int .u64 n, .int .i64 k, .slice ba bl bc, .bool two] 53)) w.heap.size ⟨2, n, k, ba, bl, bc, [], two⟩ := box_new w ⟨2, n, k, ba, bl, bc, [], two⟩
  have hcl := (Array.getElem?_eq_some_iff.1 h.C.blk).1
  have hrl := (Array.getElem?_eq_some_iff.1 h.R.blk).1
  have F1 := craw_calls _ c a1 p1 z i e k h'.C (fun x hx => Nat.lt_of_lt_of_le (ha1 x hx) za) hz
  have F2 := fun w (hR : CurR w r a2 p2 z i e) (h9 : ∀ x, a2 = some x → x.block < w.heap.size) => rraw_calls w r a2 p2 z i e k hR hz h9
  have d0 : (w.alloc (.cells #[.int .i64 2, .int .u64 n, .int .i64 k, .slice ba bl bc, .bool two] 53)).cell? ⟨w.heap.size, 2, none⟩ = some (.int .i64 k) := hbx.c2
  generalize tk z i e k = t at *
  obtain ⟨l, j, e2⟩ := t
  have KA := Lib.hid ka
  clear ka
  go_enter Try.func27, Try.ntmps27
  go_wp2_with (go_at_call 39; fail)
  generalize w.alloc (.cells #[.int .i64 2, .int .u64 n, .int .i64 k, .slice ba bl bc, .bool two] 53) = wa at *
  go_wp2_with (first
    | (go_at_call 39; refine F1.mono ?_; rintro e' w1 ⟨v7, rfl, o7, hC, hk⟩; obtain ⟨va, vc, rfl, s7, _⟩ := o7.sl; have hR := h'.R.kept hk (fun e => h.ne e.symm) h.n2; have z1 := hk.size; have d2 : w1.cell? ⟨w.heap.size, 2, none⟩ = some (.int .i64 k) := (hbx.kept hk (fun e => by have := hcl; omega)).c2)
    | (go_at_call 56; refine (F2 _ hR (fun x hx => Nat.lt_of_lt_of_le (ha x hx) (Nat.le_trans za z1))).mono ?_; rintro e' w2 ⟨v8, rfl, o8, hR2, hk2⟩; obtain ⟨vb, vd, rfl, s8, _⟩ := o8.sl; have s7' := s7.kept hk2 (fun x hx e9 => by have h1 := (o7.lt x.block (by rw [hx]; rfl)).1; omega); have hq := same_calls w2 _ _ _ _ _ _ _ _ s7' s8; rw [sameB_self] at hq; have z2 := hk2.size)
    | (go_at_call 16; refine hq.mono ?_; rintro e' w3 ⟨rfl, m3, rfl⟩))
  have hb := h.both KA.out hC hk hR2 hk2
  have o7b := (o7.kept2 hk2 (fun g hg e9 => by have h1 := (o7.lt g hg).1; omega)).drewN m3
  have hP := hb.1.drewN m3
  have hK := hb.2.drewN m3
  have n7 : ∀ g, (Value.slice va l.length vc).ownBlock = some g → wa.heap.size ≤ g := fun g hg => (o7.lt g hg).1
  have hlm : l.length ≤ 9223372036854775807 := by have := s7.max; have := s7.le; omega
  clear hb hq s7 s7' s8 o8 o7 hR2 hC hR hk hk2 F1 F2 d0 d2
  generalize w2.drewN m3 = w4 at *
  go_wp2_with fail
  go_loopw [9] (fun iv wr => ∃ (q : Nat) (ys : List Int), iv = .int .i64 q ∧ q ≤ l.length ∧ ys.length = l.length ∧ Ow .u8 5 wa.heap.size wr (.slice va l.length vc) ys ∧ Kept (fun g => (Value.slice va l.length vc).ownBlock = some g) w4 wr) (fun iv _ => l.length - (intOf iv).toNat)
  case atStart => exact ⟨0, l, rfl, by omega, rfl, o7b, Kept.refl _ _⟩
  case round =>
    obtain ⟨q, ys, rfl, hj, hy, how, hkk⟩ := hrel
    by_cases hm : q < l.length
    · have hjy : q < ys.length := by omega
      have hy0 : ys.length = (ys.set q 66).length := by simp
      have HY := Lib.hid (hy0.symm.trans hy)
      clear hy hy0
      obtain ⟨g, rfl, hg1, hg2, hcj, hfj, hset⟩ := how.at q hjy
      go_wp2
      go_roundw
      case rel => exact ⟨q + 1, _, by simp, by omega, HY.out, hset 66, hkk.setCell (p := ⟨g, q, none⟩) (.inl rfl) (.int .u8 66)⟩
      case measure => simp [intOf]; omega
    · clear hy
      go_wp2
      go_ret
      refine ⟨rfl, hP.kept hkk (fun hf => ?_) (fun hf => ?_) (fun x hx hf => ?_) (fun x hx hf => ?_), hK.trans hkk (fun g hg => .inr ?_)⟩
      · have := n7 _ hf; omega
      · have := n7 _ hf; omega
      · have := n7 _ hf; have := ha1 x hx; omega
      · have := n7 _ hf; have := ha x hx; omega
      · have := n7 _ hg; omega
end Go.Proofs.Ytgkbkkhlnidigaa
