/- What 'read' does, call by call. -/
import Derived.Test.YtgkbkkhlnidigaaBitsRd
set_option linter.unusedVariables false
set_option linter.unusedSimpArgs false
namespace Go.Proofs.Ytgkbkkhlnidigaa
open Go.RowKit Go.Tk
set_option maxRecDepth 100000 in
set_option maxHeartbeats 1000000 in
theorem read3 (w : World) (c r : Nat) (a1 : Option Addr) (p1 : Nat) (a2 : Option Addr) (p2 : Nat) (z : List Int) (i : Nat) (e : Int) (h : CP w c r a1 p1 a2 p2 z i e) (hz : z.length ≤ 140737488355328) (ha : ∀ x, a2 = some x → x.block < w.heap.size) (hzz : ∀ x ∈ z, 0 ≤ x ∧ x < 256) (n k : Int) (n0 : 0 ≤ n) (n1 : n < 18446744073709551616) (k0 : -9223372036854775808 ≤ k) (k1 : k ≤ 9223372036854775807) (ba : Option Addr) (bl bc : Nat) (two : Bool) :
    Calls Try.prog 27 #[.pointer (some ⟨c, 0, none⟩), .pointer (some ⟨r, 0, none⟩), .agg #[.int .i64 3, .int .u64 n, .int .i64 k, .slice ba bl bc, .bool two]] w (ReadP w c r a1 p1 a2 p2 z (upS z i e 18446744073709551615).2.1 (upS z i e 18446744073709551615).2.2) := by
  have ka : Kept (fun _ => False) w (w.alloc (.cells #[.int .i64 3, .int .u64 n, .int .i64 k, .slice ba bl bc, .bool two] 53)) := (Kept.refl _ w).alloc _
  have h' := h.kept ka (fun h => h) (fun h => h) (fun _ _ h => h) (fun _ _ h => h)
  have za := ka.size
  have KA := Lib.hid ka
  clear ka
  go_enter Try.func27, Try.ntmps27
  go_wp2_with (first
    | (go_at_call 40; refine (cvarint_calls _ c a1 p1 z i e h'.C hzz).mono ?_; rintro e' w1 ⟨rfl, hC, hk⟩; have hR := h'.R.kept hk (fun e => h.ne e.symm) h.n2; have z1 := hk.size)
    | (go_at_call 57; refine (rcvarint_calls _ r a2 p2 z i e hR hzz).mono ?_; rintro e' w2 ⟨rfl, hR2, hk2⟩))
  go_ret
  have hb := h.both KA.out hC hk hR2 hk2
  exact ⟨rfl, hb.1, hb.2⟩
set_option maxRecDepth 100000 in
set_option maxHeartbeats 1000000 in
theorem read6 (w : World) (c r : Nat) (a1 : Option Addr) (p1 : Nat) (a2 : Option Addr) (p2 : Nat) (z : List Int) (i : Nat) (e : Int) (h : CP w c r a1 p1 a2 p2 z i e) (hz : z.length ≤ 140737488355328) (ha : ∀ x, a2 = some x → x.block < w.heap.size) (n k : Int) (n0 : 0 ≤ n) (n1 : n < 18446744073709551616) (k0 : -9223372036854775808 ≤ k) (k1 : k ≤ 9223372036854775807) (ba : Option Addr) (bl bc : Nat) (two : Bool) :
    Calls Try.prog 27 #[.pointer (some ⟨c, 0, none⟩), .pointer (some ⟨r, 0, none⟩), .agg #[.int .i64 6, .int .u64 n, .int .i64 k, .slice ba bl bc, .bool two]] w (ReadP w c r a1 p1 a2 p2 z i (if e = 0 then k else e)) := by
  have ka : Kept (fun _ => False) w (w.alloc (.cells #[.int .i64 6, .int .u64 n, .int .i64 k, .slice ba bl bc, .bool two] 53)) := (Kept.refl _ w).alloc _
  have h' := h.kept ka (fun h => h) (fun h => h) (fun _ _ h => h) (fun _ _ h => h)
  have za := ka.size
  have hbx : BoxO (w.alloc (.cells #[.int .i64 6, .int .u64 n, .int .i64 k, .slice ba bl bc, .bool two] 53)) w.heap.size ⟨6, n, k, ba, bl, bc, [], two⟩ := box_new w ⟨6, n, k, ba, bl, bc, [], two⟩
  have hcl := (Array.getElem?_eq_some_iff.1 h.C.blk).1
  have F1 := cfail_calls _ c a1 p1 z i e h'.C k
  have F2 := fun w (hR : CurR w r a2 p2 z i e) => rfail_calls w r a2 p2 z i e hR k
  generalize (if e = 0 then k else e) = ee at *
  have KA := Lib.hid ka
  clear ka
  go_enter Try.func27, Try.ntmps27
  go_wp2_with (first
    | (go_at_call 61; refine F1.mono ?_; rintro e' w1 ⟨rfl, hC, hk⟩; have hR := h'.R.kept hk (fun e => h.ne e.symm) h.n2; have z1 := hk.size; have d2 : w1.cell? ⟨w.heap.size, 2, none⟩ = some (.int .i64 k) := (hbx.kept hk (fun e => by have := hcl; omega)).c2)
    | (go_at_call 62; refine (F2 _ hR).mono ?_; rintro e' w2 ⟨rfl, hR2, hk2⟩))
  go_ret
  have hb := h.both KA.out hC hk hR2 hk2
  exact ⟨rfl, hb.1, hb.2⟩
set_option maxRecDepth 100000 in
set_option maxHeartbeats 1000000 in
theorem read7 (w : World) (c r : Nat) (a1 : Option Addr) (p1 : Nat) (a2 : Option Addr) (p2 : Nat) (z : List Int) (i : Nat) (e : Int) (h : CP w c r a1 p1 a2 p2 z i e) (hz : z.length ≤ 140737488355328) (ha : ∀ x, a2 = some x → x.block < w.heap.size) (n k : Int) (n0 : 0 ≤ n) (n1 : n < 18446744073709551616) (k0 : -9223372036854775808 ≤ k) (k1 : k ≤ 9223372036854775807) (ba : Option Addr) (bl bc : Nat) (two : Bool) :
    Calls Try.prog 27 #[.pointer (some ⟨c, 0, none⟩), .pointer (some ⟨r, 0, none⟩), .agg #[.int .i64 7, .int .u64 n, .int .i64 k, .slice ba bl bc, .bool two]] w (ReadP w c r a1 p1 a2 p2 z i e) := by
  have ka : Kept (fun _ => False) w (w.alloc (.cells #[.int .i64 7, .int .u64 n, .int .i64 k, .slice ba bl bc, .bool two] 53)) := (Kept.refl _ w).alloc _
  have h' := h.kept ka (fun h => h) (fun h => h) (fun _ _ h => h) (fun _ _ h => h)
  have za := ka.size
  have KA := Lib.hid ka
  clear ka
  go_enter Try.func27, Try.ntmps27
  go_wp2_with (first
    | (go_at_call 28; refine (end_calls _ c a1 p1 z i e h'.C).mono ?_; rintro e' w1 ⟨rfl, m1, rfl⟩)
    | (go_at_call 29; refine (rend_calls _ r a2 p2 z i e (h'.R.drewN m1)).mono ?_; rintro e' w2 ⟨rfl, m2, rfl⟩))
  go_ret
  exact ⟨rfl, h'.drewN (m1 + m2), (KA.out.mono (T := CR c r) (fun _ h => h.elim)).drewN (m1 + m2)⟩
set_option maxRecDepth 100000 in
set_option maxHeartbeats 1000000 in
theorem read0 (w : World) (c r : Nat) (a1 : Option Addr) (p1 : Nat) (a2 : Option Addr) (p2 : Nat) (z : List Int) (i : Nat) (e : Int) (h : CP w c r a1 p1 a2 p2 z i e) (hz : z.length ≤ 140737488355328) (ha : ∀ x, a2 = some x → x.block < w.heap.size) (kind n k : Int) (d0 : -9223372036854775808 ≤ kind) (d9 : kind ≤ 9223372036854775807) (d1 : ¬ kind = 1) (d2 : ¬ kind = 2) (d3 : ¬ kind = 3) (d4 : ¬ kind = 4) (d5 : ¬ kind = 5) (d6 : ¬ kind = 6) (d7 : ¬ kind = 7) (n0 : 0 ≤ n) (n1 : n < 18446744073709551616) (k0 : -9223372036854775808 ≤ k) (k1 : k ≤ 9223372036854775807) (ba : Option Addr) (bl bc : Nat) (two : Bool) :
    Calls Try.prog 27 #[.pointer (some ⟨c, 0, none⟩), .pointer (some ⟨r, 0, none⟩), .agg #[.int .i64 kind, .int .u64 n, .int .i64 k, .slice ba bl bc, .bool two]] w (ReadP w c r a1 p1 a2 p2 z i e) := by
  have ka : Kept (fun _ => False) w (w.alloc (.cells #[.int .i64 kind, .int .u64 n, .int .i64 k, .slice ba bl bc, .bool two] 53)) := (Kept.refl _ w).alloc _
  have h' := h.kept ka (fun h => h) (fun h => h) (fun _ _ h => h) (fun _ _ h => h)
  have za := ka.size
  have KA := Lib.hid ka
  clear ka
  go_enter Try.func27, Try.ntmps27
  go_wp2
  go_ret
  exact ⟨rfl, h', KA.out.mono (T := CR c r) (fun _ h => h.elim)⟩
end Go.Proofs.Ytgkbkkhlnidigaa
