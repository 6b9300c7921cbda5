/- Cursors: where they stand, what is left, what is wrong, the next bytes. -/
import Derived.Test.YtgkbkkhlnidigaaBitsAsk
set_option linter.unusedVariables false
set_option linter.unusedSimpArgs false
namespace Go.Proofs.Ytgkbkkhlnidigaa
open Go.RowKit Go.Tk
/-- A bits.Cursor in memory: the bytes z, the place i, the error e. -/
structure CurC (w : World) (c : Nat) (a : Option Addr) (cap : Nat) (z : List Int) (i : Nat) (e : Int) : Prop where
  blk : w.heap[c]? = some (.cells #[.slice a z.length cap, .int .i64 i, .int .i64 e] 97 (0, 0))
  sl : SlI .u8 w a z.length cap z
  nil : a = none → cap = 0
  ne : ∀ x, a = some x → x.block ≠ c
  le : i ≤ z.length
/-- The reference's. -/
structure CurR (w : World) (c : Nat) (a : Option Addr) (cap : Nat) (z : List Int) (i : Nat) (e : Int) : Prop where
  blk : w.heap[c]? = some (.cells #[.slice a z.length cap, .int .i64 i, .int .i64 e] 63 (0, 0))
  sl : SlI .u8 w a z.length cap z
  nil : a = none → cap = 0
  ne : ∀ x, a = some x → x.block ≠ c
  le : i ≤ z.length
theorem CurC.drewN {w : World} {c : Nat} {a : Option Addr} {cap : Nat} {z : List Int} {i : Nat} {e : Int} (h : CurC w c a cap z i e) (n : Nat) : CurC (w.drewN n) c a cap z i e := ⟨h.blk, h.sl.drewN n, h.nil, h.ne, h.le⟩
theorem CurR.drewN {w : World} {c : Nat} {a : Option Addr} {cap : Nat} {z : List Int} {i : Nat} {e : Int} (h : CurR w c a cap z i e) (n : Nat) : CurR (w.drewN n) c a cap z i e := ⟨h.blk, h.sl.drewN n, h.nil, h.ne, h.le⟩
theorem CurC.kept {S : Nat → Prop} {w w' : World} {c : Nat} {a : Option Addr} {cap : Nat} {z : List Int} {i : Nat} {e : Int} (h : CurC w c a cap z i e) (hk : Kept S w w') (hc : ¬ S c) (ha : ∀ x, a = some x → ¬ S x.block) : CurC w' c a cap z i e :=
  ⟨(hk.block c (Array.getElem?_eq_some_iff.1 h.blk).1 hc).trans h.blk, h.sl.kept hk ha, h.nil, h.ne, h.le⟩
theorem CurR.kept {S : Nat → Prop} {w w' : World} {c : Nat} {a : Option Addr} {cap : Nat} {z : List Int} {i : Nat} {e : Int} (h : CurR w c a cap z i e) (hk : Kept S w w') (hc : ¬ S c) (ha : ∀ x, a = some x → ¬ S x.block) : CurR w' c a cap z i e :=
  ⟨(hk.block c (Array.getElem?_eq_some_iff.1 h.blk).1 hc).trans h.blk, h.sl.kept hk ha, h.nil, h.ne, h.le⟩
theorem CurC.setE {w : World} {c : Nat} {a : Option Addr} {cap : Nat} {z : List Int} {i : Nat} {e : Int} (h : CurC w c a cap z i e) (e' : Int) : CurC (w.setCell ⟨c, 2, none⟩ (.int .i64 e')) c a cap z i e' :=
  ⟨by rw [heap_setCell_same w c 2 _ _ _ h.blk]; rfl, h.sl.kept ((Kept.refl (fun k => k = c) w).setCell (.inl rfl) _) h.ne, h.nil, h.ne, h.le⟩
theorem CurC.setI {w : World} {c : Nat} {a : Option Addr} {cap : Nat} {z : List Int} {i : Nat} {e : Int} (h : CurC w c a cap z i e) (i' : Nat) (hi : i' ≤ z.length) : CurC (w.setCell ⟨c, 1, none⟩ (.int .i64 i')) c a cap z i' e :=
  ⟨by rw [heap_setCell_same w c 1 _ _ _ h.blk]; rfl, h.sl.kept ((Kept.refl (fun k => k = c) w).setCell (.inl rfl) _) h.ne, h.nil, h.ne, hi⟩
theorem CurR.setE {w : World} {c : Nat} {a : Option Addr} {cap : Nat} {z : List Int} {i : Nat} {e : Int} (h : CurR w c a cap z i e) (e' : Int) : CurR (w.setCell ⟨c, 2, none⟩ (.int .i64 e')) c a cap z i e' :=
  ⟨by rw [heap_setCell_same w c 2 _ _ _ h.blk]; rfl, h.sl.kept ((Kept.refl (fun k => k = c) w).setCell (.inl rfl) _) h.ne, h.nil, h.ne, h.le⟩
theorem CurR.setI {w : World} {c : Nat} {a : Option Addr} {cap : Nat} {z : List Int} {i : Nat} {e : Int} (h : CurR w c a cap z i e) (i' : Nat) (hi : i' ≤ z.length) : CurR (w.setCell ⟨c, 1, none⟩ (.int .i64 i')) c a cap z i' e :=
  ⟨by rw [heap_setCell_same w c 1 _ _ _ h.blk]; rfl, h.sl.kept ((Kept.refl (fun k => k = c) w).setCell (.inl rfl) _) h.ne, h.nil, h.ne, hi⟩
section
variable {w : World} {c : Nat} {a : Option Addr} {cap : Nat} {z : List Int} {i : Nat} {e : Int}
theorem CurC.c0 (h : CurC w c a cap z i e) : w.cell? ⟨c, 0, none⟩ = some (.slice a z.length cap) := by rw [cell_of_row w c 0 _ _ _ h.blk]; rfl
theorem CurC.c1 (h : CurC w c a cap z i e) : w.cell? ⟨c, 1, none⟩ = some (.int .i64 i) := by rw [cell_of_row w c 1 _ _ _ h.blk]; rfl
theorem CurC.c2 (h : CurC w c a cap z i e) : w.cell? ⟨c, 2, none⟩ = some (.int .i64 e) := by rw [cell_of_row w c 2 _ _ _ h.blk]; rfl
theorem CurR.c0 (h : CurR w c a cap z i e) : w.cell? ⟨c, 0, none⟩ = some (.slice a z.length cap) := by rw [cell_of_row w c 0 _ _ _ h.blk]; rfl
theorem CurR.c1 (h : CurR w c a cap z i e) : w.cell? ⟨c, 1, none⟩ = some (.int .i64 i) := by rw [cell_of_row w c 1 _ _ _ h.blk]; rfl
theorem CurR.c2 (h : CurR w c a cap z i e) : w.cell? ⟨c, 2, none⟩ = some (.int .i64 e) := by rw [cell_of_row w c 2 _ _ _ h.blk]; rfl
theorem CurC.fr (h : CurC w c a cap z i e) (k : Nat) : w.frozen? ⟨c, k, none⟩ = false := frozen_of_row w c k _ _ h.blk
theorem CurR.fr (h : CurR w c a cap z i e) (k : Nat) : w.frozen? ⟨c, k, none⟩ = false := frozen_of_row w c k _ _ h.blk
end
theorem at_calls (w : World) (c : Nat) (a : Option Addr) (cap : Nat) (z : List Int) (i : Nat) (e : Int) (h : CurC w c a cap z i e) :
    Calls Try.prog 24 #[.pointer (some ⟨c, 0, none⟩)] w fun e' w' => e' = .returned (.int .i64 i) ∧ w = w' := by
  have c1 := h.c1
  go_enter Try.func24, Try.ntmps24
  go_wp2
  go_ret
  exact ⟨rfl, rfl⟩
theorem err_calls (w : World) (c : Nat) (a : Option Addr) (cap : Nat) (z : List Int) (i : Nat) (e : Int) (h : CurC w c a cap z i e) :
    Calls Try.prog 26 #[.pointer (some ⟨c, 0, none⟩)] w fun e' w' => e' = .returned (.int .i64 e) ∧ w = w' := by
  have c2 := h.c2
  go_enter Try.func26, Try.ntmps26
  go_wp2
  go_ret
  exact ⟨rfl, rfl⟩
theorem left_calls (w : World) (c : Nat) (a : Option Addr) (cap : Nat) (z : List Int) (i : Nat) (e : Int) (h : CurC w c a cap z i e) :
    Calls Try.prog 25 #[.pointer (some ⟨c, 0, none⟩)] w fun e' w' => e' = .returned (.int .i64 (z.length - i)) ∧ ∃ n, w' = w.drewN n := by
  have c0 := h.c0
  have c1 := h.c1
  have hle := h.le
  have hm := h.sl.max
  have hl := h.sl.le
  go_enter Try.func25, Try.ntmps25
  go_wp2_with fail
  go_quiet (fail)
  go_wp2
  go_ret
  exact ⟨by first | rfl | go_num, _, rfl⟩
theorem cfail_calls (w : World) (c : Nat) (a : Option Addr) (cap : Nat) (z : List Int) (i : Nat) (e : Int) (h : CurC w c a cap z i e) (x : Int) :
    Calls Try.prog 61 #[.pointer (some ⟨c, 0, none⟩), .int .i64 x] w fun e' w' => e' = .returned (.tuple #[]) ∧ CurC w' c a cap z i (if e = 0 then x else e) ∧ Kept (fun k => k = c) w w' := by
  have c2 := h.c2
  have f2 := h.fr 2
  by_cases h0 : e = 0
  · subst h0
    rw [if_pos rfl]
    go_enter Try.func61, Try.ntmps61
    go_wp2
    go_end0
    exact ⟨rfl, h.setE x, (Kept.refl (fun k => k = c) w).setCell (p := ⟨c, 2, none⟩) (.inl rfl) _⟩
  · rw [if_neg h0]
    go_enter Try.func61, Try.ntmps61
    go_wp2
    go_end0
    exact ⟨rfl, h, Kept.refl _ w⟩
theorem rfail_calls (w : World) (c : Nat) (a : Option Addr) (cap : Nat) (z : List Int) (i : Nat) (e : Int) (h : CurR w c a cap z i e) (x : Int) :
    Calls Try.prog 62 #[.pointer (some ⟨c, 0, none⟩), .int .i64 x] w fun e' w' => e' = .returned (.tuple #[]) ∧ CurR w' c a cap z i (if e = 0 then x else e) ∧ Kept (fun k => k = c) w w' := by
  have c2 := h.c2
  have f2 := h.fr 2
  by_cases h0 : e = 0
  · subst h0
    rw [if_pos rfl]
    go_enter Try.func62, Try.ntmps62
    go_wp2
    go_end0
    exact ⟨rfl, h.setE x, (Kept.refl (fun k => k = c) w).setCell (p := ⟨c, 2, none⟩) (.inl rfl) _⟩
  · rw [if_neg h0]
    go_enter Try.func62, Try.ntmps62
    go_wp2
    go_end0
    exact ⟨rfl, h, Kept.refl _ w⟩
/-- What End says. -/
def endE (len i : Nat) (e : Int) : Int := if e = 0 ∧ i < len then 13 else e
theorem end_calls (w : World) (c : Nat) (a : Option Addr) (cap : Nat) (z : List Int) (i : Nat) (e : Int) (h : CurC w c a cap z i e) :
    Calls Try.prog 28 #[.pointer (some ⟨c, 0, none⟩)] w fun e' w' => e' = .returned (.int .i64 (endE z.length i e)) ∧ ∃ n, w' = w.drewN n := by
  have c2 := h.c2
  have hle := h.le
  have hm := h.sl.max
  have hl := h.sl.le
  have hL := left_calls w c a cap z i e h
  by_cases h0 : e = 0
  · subst h0
    by_cases h1 : i < z.length
    · rw [show endE z.length i 0 = 13 by simp [endE, h1]]
      go_enter Try.func28, Try.ntmps28
      go_wp2_with (go_at_call 25; refine hL.mono ?_; rintro e' w1 ⟨rfl, n1, rfl⟩)
      go_ret
      exact ⟨rfl, _, rfl⟩
    · rw [show endE z.length i 0 = 0 by simp [endE, h1]]
      have c2' : ∀ n, (w.drewN n).cell? ⟨c, 2, none⟩ = some (.int .i64 0) := fun n => c2
      go_enter Try.func28, Try.ntmps28
      go_wp2_with (go_at_call 25; refine hL.mono ?_; rintro e' w1 ⟨rfl, n1, rfl⟩)
      go_ret
      exact ⟨rfl, _, rfl⟩
  · rw [show endE z.length i e = e by simp [endE, h0]]
    go_enter Try.func28, Try.ntmps28
    go_wp2
    go_ret
    exact ⟨rfl, 0, rfl⟩
theorem rend_calls (w : World) (c : Nat) (a : Option Addr) (cap : Nat) (z : List Int) (i : Nat) (e : Int) (h : CurR w c a cap z i e) :
    Calls Try.prog 29 #[.pointer (some ⟨c, 0, none⟩)] w fun e' w' => e' = .returned (.int .i64 (endE z.length i e)) ∧ ∃ n, w' = w.drewN n := by
  have c0 := h.c0
  have c1 := h.c1
  have c2 := h.c2
  have hle := h.le
  have hm := h.sl.max
  have hl := h.sl.le
  by_cases h0 : e = 0
  · subst h0
    by_cases h1 : i < z.length
    · rw [show endE z.length i 0 = 13 by simp [endE, h1]]
      go_enter Try.func29, Try.ntmps29
      go_wp2_with fail
      go_quiet (fail)
      go_wp2
      go_ret
      exact ⟨rfl, _, rfl⟩
    · rw [show endE z.length i 0 = 0 by simp [endE, h1]]
      go_enter Try.func29, Try.ntmps29
      go_wp2_with fail
      go_quiet (fail)
      go_wp2
      go_ret
      exact ⟨rfl, _, rfl⟩
  · rw [show endE z.length i e = e by simp [endE, h0]]
    have hd : decide (e = 0) = false := by simp [h0]
    have HD := Lib.hid hd
    clear hd
    go_enter Try.func29, Try.ntmps29
    go_wp2_with fail
    go_quiet (fail)
    go_wp2
    go_ret
    exact ⟨rfl, _, rfl⟩
end Go.Proofs.Ytgkbkkhlnidigaa
