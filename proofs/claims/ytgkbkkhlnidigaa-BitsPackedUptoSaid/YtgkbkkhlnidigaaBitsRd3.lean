/- What 'read' does, call by call. -/
import Derived.Test.YtgkbkkhlnidigaaBitsRd2
import Derived.Deep.RegionHeld3
set_option linter.unusedVariables false
set_option linter.unusedSimpArgs false
namespace Go.Proofs.Ytgkbkkhlnidigaa
open Go.RowKit Go.Tk
set_option maxRecDepth 100000 in
set_option maxHeartbeats 1000000 in
theorem read4 (w : World) (c r : Nat) (a1 : Option Addr) (p1 : Nat) (a2 : Option Addr) (p2 : Nat) (z : List Int) (i : Nat) (e : Int) (h : CP w c r a1 p1 a2 p2 z i e) (hz : z.length ≤ 140737488355328) (ha : ∀ x, a2 = some x → x.block < w.heap.size) (hzz : ∀ x ∈ z, 0 ≤ x ∧ x < 256) (n k : Int) (n0 : 0 ≤ n) (n1 : n < 18446744073709551616) (k0 : -9223372036854775808 ≤ k) (k1 : k ≤ 9223372036854775807) (ba : Option Addr) (bl bc : Nat) (two : Bool) :
    Calls Try.prog 27 #[.pointer (some ⟨c, 0, none⟩), .pointer (some ⟨r, 0, none⟩), .agg #[.int .i64 4, .int .u64 n, .int .i64 k, .slice ba bl bc, .bool two]] w (ReadP w c r a1 p1 a2 p2 z (tk z i e (oct k : Nat)).2.1 (tk z i e (oct k : Nat)).2.2) := by
  have ka : Kept (fun _ => False) w (w.alloc (.cells #[.int .i64 4, .int .u64 n, .int .i64 k, .slice ba bl bc, .bool two] 53)) := (Kept.refl _ w).alloc _
  have h' := h.kept ka (fun h => h) (fun h => h) (fun _ _ h => h) (fun _ _ h => h)
  have za := ka.size
  have hbx : BoxO (w.alloc (.cells #[.int .i64 4, .int .u64 n, .int .i64 k, .slice ba bl bc, .bool two] 53)) w.heap.size ⟨4, n, k, ba, bl, bc, [], two⟩ := box_new w ⟨4, n, k, ba, bl, bc, [], two⟩
  have hcl := (Array.getElem?_eq_some_iff.1 h.C.blk).1
  have hrl := (Array.getElem?_eq_some_iff.1 h.R.blk).1
  have hbx1 : BoxO ((w.alloc (.cells #[.int .i64 4, .int .u64 n, .int .i64 k, .slice ba bl bc, .bool two] 53)).drewN 1) w.heap.size ⟨4, n, k, ba, bl, bc, [], two⟩ := hbx
  have d0 : (w.alloc (.cells #[.int .i64 4, .int .u64 n, .int .i64 k, .slice ba bl bc, .bool two] 53)).cell? ⟨w.heap.size, 2, none⟩ = some (.int .i64 k) := hbx.c2
  have KA := Lib.hid ka
  clear ka
  go_enter Try.func27, Try.ntmps27
  go_wp2_with fail
  go_region_held3 (fun w' => w'.cell? ⟨w.heap.size, 2, none⟩ = some (.int .i64 k)) (simp [*])
      (first
      | (go_at_call 41; refine (cfixed_calls _ c a1 p1 z i e k (h'.drewN 1).C k0 k1 hzz).mono ?_; rintro e' w1 ⟨rfl, hC, hk⟩; have hR := (h'.drewN 1).R.kept hk (fun e => h.ne e.symm) h.n2; have z1 := hk.size; have d2 : w1.cell? ⟨w.heap.size, 2, none⟩ = some (.int .i64 k) := (BoxO.kept hbx1 hk (fun e => by have := hcl; omega)).c2)
      | (go_at_call 58; refine (rcfixed_calls _ r a2 p2 z i e k hR k0 k1 hzz hz (fun x hx => Nat.lt_of_lt_of_le (ha x hx) (Nat.le_trans za z1))).mono ?_; rintro e' w2 ⟨rfl, hR2, hk2⟩; have d3 : w2.cell? ⟨w.heap.size, 2, none⟩ = some (.int .i64 k) := (hk2.cell d2 (fun e => by have e9 : w.heap.size = r := e; have := hrl; omega))))
  go_wp2
  go_ret
  have hb := h.both (KA.out.drewN 1) hC hk hR2 hk2
  exact ⟨rfl, hb.1, hb.2⟩
set_option maxRecDepth 100000 in
set_option maxHeartbeats 1000000 in
theorem read5 (w : World) (c r : Nat) (a1 : Option Addr) (p1 : Nat) (a2 : Option Addr) (p2 : Nat) (z : List Int) (i : Nat) (e : Int) (h : CP w c r a1 p1 a2 p2 z i e) (hz : z.length ≤ 140737488355328) (ha : ∀ x, a2 = some x → x.block < w.heap.size) (hzz : ∀ x ∈ z, 0 ≤ x ∧ x < 256) (n k : Int) (n0 : 0 ≤ n) (n1 : n < 18446744073709551616) (k0 : -9223372036854775808 ≤ k) (k1 : k ≤ 9223372036854775807) (ba : Option Addr) (bl bc : Nat) (two : Bool) :
    Calls Try.prog 27 #[.pointer (some ⟨c, 0, none⟩), .pointer (some ⟨r, 0, none⟩), .agg #[.int .i64 5, .int .u64 n, .int .i64 k, .slice ba bl bc, .bool two]] w (ReadP w c r a1 p1 a2 p2 z (upS z i e n).2.1 (upS z i e n).2.2) := by
  have ka : Kept (fun _ => False) w (w.alloc (.cells #[.int .i64 5, .int .u64 n, .int .i64 k, .slice ba bl bc, .bool two] 53)) := (Kept.refl _ w).alloc _
  have h' := h.kept ka (fun h => h) (fun h => h) (fun _ _ h => h) (fun _ _ h => h)
  have za := ka.size
  have hbx : BoxO (w.alloc (.cells #[.int .i64 5, .int .u64 n, .int .i64 k, .slice ba bl bc, .bool two] 53)) w.heap.size ⟨5, n, k, ba, bl, bc, [], two⟩ := box_new w ⟨5, n, k, ba, bl, bc, [], two⟩
  have hcl := (Array.getElem?_eq_some_iff.1 h.C.blk).1
  have hrl := (Array.getElem?_eq_some_iff.1 h.R.blk).1
  have hbx1 : BoxO ((w.alloc (.cells #[.int .i64 5, .int .u64 n, .int .i64 k, .slice ba bl bc, .bool two] 53)).drewN 1) w.heap.size ⟨5, n, k, ba, bl, bc, [], two⟩ := hbx
  have d0 : (w.alloc (.cells #[.int .i64 5, .int .u64 n, .int .i64 k, .slice ba bl bc, .bool two] 53)).cell? ⟨w.heap.size, 1, none⟩ = some (.int .u64 n) := hbx.c1
  have KA := Lib.hid ka
  clear ka
  go_enter Try.func27, Try.ntmps27
  go_wp2_with fail
  go_region_held3 (fun w' => w'.cell? ⟨w.heap.size, 1, none⟩ = some (.int .u64 n)) (simp [*])
      (first
      | (go_at_call 59; refine (cupto_calls _ c a1 p1 z i e n (h'.drewN 1).C hzz).mono ?_; rintro e' w1 ⟨rfl, hC, hk⟩; have hR := (h'.drewN 1).R.kept hk (fun e => h.ne e.symm) h.n2; have z1 := hk.size; have d2 : w1.cell? ⟨w.heap.size, 1, none⟩ = some (.int .u64 n) := (BoxO.kept hbx1 hk (fun e => by have := hcl; omega)).c1)
      | (go_at_call 60; refine (rupto_calls _ r a2 p2 z i e n hR hzz).mono ?_; rintro e' w2 ⟨rfl, hR2, hk2⟩; have d3 : w2.cell? ⟨w.heap.size, 1, none⟩ = some (.int .u64 n) := (hk2.cell d2 (fun e => by have e9 : w.heap.size = r := e; have := hrl; omega))))
  go_wp2
  go_ret
  have hb := h.both (KA.out.drewN 1) hC hk hR2 hk2
  exact ⟨rfl, hb.1, hb.2⟩
end Go.Proofs.Ytgkbkkhlnidigaa
