/- What 'read' does, at any call; a new cursor. -/
import Derived.Test.YtgkbkkhlnidigaaBitsRd4
set_option linter.unusedVariables false
set_option linter.unusedSimpArgs false
namespace Go.Proofs.Ytgkbkkhlnidigaa
open Go.RowKit Go.Tk
/-- Where a cursor stands behind a call. -/
def readSt (z : List Int) (i : Nat) (e : Int) (o : OpV) : Nat × Int :=
  if o.kind = 1 then (tk z i e 1).2 else if o.kind = 2 then (tk z i e o.k).2 else if o.kind = 3 then (upS z i e 18446744073709551615).2 else if o.kind = 4 then (tk z i e (oct o.k : Nat)).2 else if o.kind = 5 then (upS z i e o.n).2
  else if o.kind = 6 then (i, if e = 0 then o.k else e) else (i, e)
theorem read_calls (w : World) (c r : Nat) (a1 : Option Addr) (p1 : Nat) (a2 : Option Addr) (p2 : Nat) (z : List Int) (i : Nat) (e : Int) (h : CP w c r a1 p1 a2 p2 z i e) (hz : z.length ≤ 140737488355328) (ha : ∀ x, a2 = some x → x.block < w.heap.size) (ha1 : ∀ x, a1 = some x → x.block < w.heap.size) (hzz : ∀ x ∈ z, 0 ≤ x ∧ x < 256)
    (o : OpV) (kr : -9223372036854775808 ≤ o.kind ∧ o.kind ≤ 9223372036854775807) (nr : 0 ≤ o.n ∧ o.n < 18446744073709551616) (kkr : -9223372036854775808 ≤ o.k ∧ o.k ≤ 9223372036854775807) :
    Calls Try.prog 27 #[.pointer (some ⟨c, 0, none⟩), .pointer (some ⟨r, 0, none⟩), .agg #[.int .i64 o.kind, .int .u64 o.n, .int .i64 o.k, .slice o.ba o.bl o.bc, .bool o.two]] w (ReadP w c r a1 p1 a2 p2 z (readSt z i e o).1 (readSt z i e o).2) := by
  obtain ⟨kind, n, k, ba, bl, bc, bz, two⟩ := o
  simp only at kr nr kkr ⊢
  unfold readSt
  simp only
  by_cases e1 : kind = 1
  · subst e1; rw [if_pos rfl]; exact read1 w c r a1 p1 a2 p2 z i e h hz ha n k ba bl bc two
  rw [if_neg e1]
  by_cases e2 : kind = 2
  · subst e2; rw [if_pos rfl]; exact read2 w c r a1 p1 a2 p2 z i e h hz ha ha1 n k ba bl bc two
  rw [if_neg e2]
  by_cases e3 : kind = 3
  · subst e3; rw [if_pos rfl]; exact read3 w c r a1 p1 a2 p2 z i e h hz ha hzz n k nr.1 nr.2 kkr.1 kkr.2 ba bl bc two
  rw [if_neg e3]
  by_cases e4 : kind = 4
  · subst e4; rw [if_pos rfl]; exact read4 w c r a1 p1 a2 p2 z i e h hz ha hzz n k nr.1 nr.2 kkr.1 kkr.2 ba bl bc two
  rw [if_neg e4]
  by_cases e5 : kind = 5
  · subst e5; rw [if_pos rfl]; exact read5 w c r a1 p1 a2 p2 z i e h hz ha hzz n k nr.1 nr.2 kkr.1 kkr.2 ba bl bc two
  rw [if_neg e5]
  by_cases e6 : kind = 6
  · subst e6; rw [if_pos rfl]; exact read6 w c r a1 p1 a2 p2 z i e h hz ha n k nr.1 nr.2 kkr.1 kkr.2 ba bl bc two
  rw [if_neg e6]
  by_cases e7 : kind = 7
  · subst e7; exact read7 w c r a1 p1 a2 p2 z i e h hz ha n k nr.1 nr.2 kkr.1 kkr.2 ba bl bc two
  · exact read0 w c r a1 p1 a2 p2 z i e h hz ha kind n k kr.1 kr.2 e1 e2 e3 e4 e5 e6 e7 nr.1 nr.2 kkr.1 kkr.2 ba bl bc two
/-- A cursor's block when it is new. -/
def newC (a : Option Addr) (n c : Nat) : Obj := .cells #[.slice a n c, .int .i64 0, .int .i64 0] 97 (0, 0)
theorem read_eq (w : World) (a : Option Addr) (n c : Nat) :
    Calls Try.prog 23 #[.slice a n c] w fun e w' => e = .returned (.pointer (some ⟨w.heap.size, 0, none⟩)) ∧ w' = w.alloc (newC a n c) := by
  go_enter Try.func23, Try.ntmps23
  go_wp2
  go_ret
  exact ⟨rfl, rfl⟩
theorem SlI.two (k : IntKind) (e : TypeId) (w : World) (x y : Int) : SlI k (w.alloc (.cells #[.int k x, .int k y] e)) (some ⟨w.heap.size, 0, none⟩) 2 2 [x, y] :=
  ⟨rfl, Nat.le_refl _, by omega, fun i hi => ⟨w.heap.size, 0, rfl, by
    match i, hi with
    | 0, _ => simp [World.cell?_alloc_new]
    | 1, _ => simp [World.cell?_alloc_new]⟩⟩
end Go.Proofs.Ytgkbkkhlnidigaa
