/- A cursor and the reference's, side by side: read. -/
import Derived.Test.YtgkbkkhlnidigaaBitsCur8
import Derived.Test.YtgkbkkhlnidigaaBitsPair
set_option linter.unusedVariables false
set_option linter.unusedSimpArgs false
namespace Go.Proofs.Ytgkbkkhlnidigaa
open Go.RowKit Go.Tk
structure CP (w : World) (c r : Nat) (a1 : Option Addr) (p1 : Nat) (a2 : Option Addr) (p2 : Nat) (z : List Int) (i : Nat) (e : Int) : Prop where
  C : CurC w c a1 p1 z i e
  R : CurR w r a2 p2 z i e
  ne : c ≠ r
  n1 : ∀ x, a1 = some x → x.block ≠ r
  n2 : ∀ x, a2 = some x → x.block ≠ c
theorem CP.kept {S : Nat → Prop} {w w' : World} {c r : Nat} {a1 : Option Addr} {p1 : Nat} {a2 : Option Addr} {p2 : Nat} {z : List Int} {i : Nat} {e : Int} (h : CP w c r a1 p1 a2 p2 z i e) (hk : Kept S w w') (h1 : ¬ S c) (h2 : ¬ S r) (h3 : ∀ x, a1 = some x → ¬ S x.block) (h4 : ∀ x, a2 = some x → ¬ S x.block) : CP w' c r a1 p1 a2 p2 z i e :=
  ⟨h.C.kept hk h1 h3, h.R.kept hk h2 h4, h.ne, h.n1, h.n2⟩
theorem CP.drewN {w : World} {c r : Nat} {a1 : Option Addr} {p1 : Nat} {a2 : Option Addr} {p2 : Nat} {z : List Int} {i : Nat} {e : Int} (h : CP w c r a1 p1 a2 p2 z i e) (n : Nat) : CP (w.drewN n) c r a1 p1 a2 p2 z i e := ⟨h.C.drewN n, h.R.drewN n, h.ne, h.n1, h.n2⟩
/-- The two blocks that a call of both may turn. -/
def CR (c r k : Nat) : Prop := k = c ∨ k = r
def ReadP (w : World) (c r : Nat) (a1 : Option Addr) (p1 : Nat) (a2 : Option Addr) (p2 : Nat) (z : List Int) (i : Nat) (e : Int) (e' : Ending) (w' : World) : Prop :=
  e' = .returned (.bool true) ∧ CP w' c r a1 p1 a2 p2 z i e ∧ Kept (CR c r) w w'
theorem CP.both {w w0 w1 w2 : World} {c r : Nat} {a1 : Option Addr} {p1 : Nat} {a2 : Option Addr} {p2 : Nat} {z : List Int} {i j : Nat} {e e2 : Int} (h : CP w c r a1 p1 a2 p2 z i e) (hk0 : Kept (fun _ => False) w w0) (hC : CurC w1 c a1 p1 z j e2) (hk : Kept (fun k => k = c) w0 w1) (hR : CurR w2 r a2 p2 z j e2) (hk2 : Kept (fun k => k = r) w1 w2) : CP w2 c r a1 p1 a2 p2 z j e2 ∧ Kept (CR c r) w w2 :=
  ⟨⟨hC.kept hk2 h.ne h.n1, hR, h.ne, h.n1, h.n2⟩, ((hk0.mono (T := CR c r) (fun _ h => h.elim)).trans hk (fun k hk => .inl (.inl hk))).trans hk2 (fun k hk => .inl (.inr hk))⟩
set_option maxRecDepth 100000 in
set_option maxHeartbeats 1000000 in
theorem read1 (w : World) (c r : Nat) (a1 : Option Addr) (p1 : Nat) (a2 : Option Addr) (p2 : Nat) (z : List Int) (i : Nat) (e : Int) (h : CP w c r a1 p1 a2 p2 z i e) (hz : z.length ≤ 140737488355328) (ha : ∀ x, a2 = some x → x.block < w.heap.size) (n k : Int) (ba : Option Addr) (bl bc : Nat) (two : Bool) :
    Calls Try.prog 27 #[.pointer (some ⟨c, 0, none⟩), .pointer (some ⟨r, 0, none⟩), .agg #[.int .i64 1, .int .u64 n, .int .i64 k, .slice ba bl bc, .bool two]] w (ReadP w c r a1 p1 a2 p2 z (tk z i e 1).2.1 (tk z i e 1).2.2) := by
  have ka : Kept (fun _ => False) w (w.alloc (.cells #[.int .i64 1, .int .u64 n, .int .i64 k, .slice ba bl bc, .bool two] 53)) := (Kept.refl _ w).alloc _
  have h' := h.kept ka (fun h => h) (fun h => h) (fun _ _ h => h) (fun _ _ h => h)
  have za := ka.size
  have KA := Lib.hid ka
  clear ka
  go_enter Try.func27, Try.ntmps27
  go_wp2_with (first
    | (go_at_call 38; refine (cbyte_calls _ c a1 p1 z i e h'.C).mono ?_; rintro e' w1 ⟨rfl, hC, hk⟩; have hR := h'.R.kept hk (fun e => h.ne e.symm) h.n2; have z1 := hk.size)
    | (go_at_call 55; refine (rbyte_calls _ r a2 p2 z i e hR hz (fun x hx => Nat.lt_of_lt_of_le (ha x hx) (Nat.le_trans za z1))).mono ?_; rintro e' w2 ⟨rfl, hR2, hk2⟩))
  go_ret
  have hb := h.both KA.out hC hk hR2 hk2
  exact ⟨rfl, hb.1, hb.2⟩
end Go.Proofs.Ytgkbkkhlnidigaa
