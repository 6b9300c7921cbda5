/- Cursors: Raw, Byte, Fixed. -/
import Derived.Test.YtgkbkkhlnidigaaBitsCur2
set_option linter.unusedVariables false
set_option linter.unusedSimpArgs false
namespace Go.Proofs.Ytgkbkkhlnidigaa
open Go.RowKit Go.Tk
theorem Ow.rebase {k : IntKind} {e : TypeId} {base base' : Nat} {w : World} {v : Value} {zs : List Int} (h : Ow k e base w v zs) (hb : base' ≤ base) : Ow k e base' w v zs := h.mono hb
/-- What is known behind a Raw: new bytes. -/
def RawC (w : World) (c : Nat) (a : Option Addr) (cap : Nat) (z : List Int) (t : List Int × Nat × Int) (e' : Ending) (w' : World) : Prop :=
  ∃ v', e' = .returned v' ∧ Ow .u8 5 w.heap.size w' v' t.1 ∧ CurC w' c a cap z t.2.1 t.2.2 ∧ Kept (fun k => k = c) w w'
theorem tk_len (z : List Int) (i : Nat) (e n : Int) : (tk z i e n).1.length ≤ z.length := by
  unfold tk
  split
  · simp
  · split
    · simp
    · simp; omega
theorem craw_calls (w : World) (c : Nat) (a : Option Addr) (cap : Nat) (z : List Int) (i : Nat) (e n : Int) (h : CurC w c a cap z i e) (ha : ∀ x, a = some x → x.block < w.heap.size) (hz : z.length ≤ 140737488355328) :
    Calls Try.prog 39 #[.pointer (some ⟨c, 0, none⟩), .int .i64 n] w (RawC w c a cap z (tk z i e n)) := by
  have hT := take_calls w c a cap z i e n h
  have hlen := tk_len z i e n
  have hc := (Array.getElem?_eq_some_iff.1 h.blk).1
  generalize tk z i e n = t at *
  go_enter Try.func39, Try.ntmps39
  go_wp2_with (first
    | (go_at_call 66; refine hT.mono ?_; rintro e' w1 ⟨a', c', rfl, hs, hn, hC, hk⟩; have HN := Lib.hid hn; clear hn)
    | (go_at_call 65; refine (clone_calls _ _ _ _ _ hs HN.out (by omega)).mono ?_; rintro e' w2 ⟨v', rfl, ow', k'⟩))
  go_ret
  have hs1 := hk.size
  exact ⟨v', rfl, ow'.mono hs1, hC.kept k' (fun h => h) (fun _ _ h => h), hk.trans k' (fun _ h => h.elim)⟩
/-- What is known behind the reference's Raw. -/
def RawR (w : World) (c : Nat) (a : Option Addr) (cap : Nat) (z : List Int) (t : List Int × Nat × Int) (e' : Ending) (w' : World) : Prop :=
  ∃ v', e' = .returned v' ∧ Ow .u8 5 w.heap.size w' v' t.1 ∧ CurR w' c a cap z t.2.1 t.2.2 ∧ Kept (fun k => k = c) w w'
theorem rraw_bad (w : World) (c : Nat) (a : Option Addr) (cap : Nat) (z : List Int) (i : Nat) (e n : Int) (h : CurR w c a cap z i e) (h0 : ¬ e = 0) :
    Calls Try.prog 56 #[.pointer (some ⟨c, 0, none⟩), .int .i64 n] w (RawR w c a cap z ([], i, e)) := by
  have c2 := h.c2
  go_enter Try.func56, Try.ntmps56
  go_wp2
  go_ret
  exact ⟨_, rfl, Ow.nil _ _ _ _, h, Kept.refl _ _⟩
theorem rraw_short (w : World) (c : Nat) (a : Option Addr) (cap : Nat) (z : List Int) (i : Nat) (n : Int) (h : CurR w c a cap z i 0) (hn : n < 0 ∨ (z.length : Int) - i < n) :
    Calls Try.prog 56 #[.pointer (some ⟨c, 0, none⟩), .int .i64 n] w (RawR w c a cap z ([], i, 10)) := by
  have c0 := h.c0
  have c1 := h.c1
  have c2 := h.c2
  have hle := h.le
  have hm := h.sl.max
  have hl := h.sl.le
  have e1 : IntKind.i64.wrap ((z.length : Int) - (i : Int)) = (z.length : Int) - (i : Int) := by rw [IntKind.wrap_i64]; omega
  have hF := fun m => rfail_calls (w.drewN m) c a cap z i 0 (h.drewN m) 10
  by_cases hneg : n < 0
  · go_enter Try.func56, Try.ntmps56
    go_wp2_with fail
    go_quiet (fail)
    go_wp2_with (go_at_call 62; refine (hF _).mono ?_; rintro e' w1 ⟨rfl, hC, hk⟩)
    go_ret
    exact ⟨_, rfl, Ow.nil _ _ _ _, hC, ⟨hk.os, hk.tape, hk.output, hk.size, hk.block⟩⟩
  · have hgt : (z.length : Int) - i < n := by omega
    go_enter Try.func56, Try.ntmps56
    go_wp2_with fail
    go_quiet (fail)
    go_wp2_with (go_at_call 62; refine (hF _).mono ?_; rintro e' w1 ⟨rfl, hC, hk⟩)
    go_ret
    exact ⟨_, rfl, Ow.nil _ _ _ _, hC, ⟨hk.os, hk.tape, hk.output, hk.size, hk.block⟩⟩
theorem rraw_ok (w : World) (c : Nat) (a : Option Addr) (cap : Nat) (z : List Int) (i m : Nat) (h : CurR w c a cap z i 0) (hn : i + m ≤ z.length) (hz : z.length ≤ 140737488355328) (ha : ∀ x, a = some x → x.block < w.heap.size) :
    Calls Try.prog 56 #[.pointer (some ⟨c, 0, none⟩), .int .i64 m] w (RawR w c a cap z ((z.drop i).take m, i + m, 0)) := by
  have c0 := h.c0
  have c1 := h.c1
  have c2 := h.c2
  have f1 := h.fr 1
  have hle := h.le
  have hm := h.sl.max
  have hl := h.sl.le
  have hcl := (Array.getElem?_eq_some_iff.1 h.blk).1
  have e1 : IntKind.i64.wrap ((z.length : Int) - (i : Int)) = (z.length : Int) - (i : Int) := by rw [IntKind.wrap_i64]; omega
  have e2 : IntKind.i64.wrap ((i : Int) + (m : Int)) = (i : Int) + (m : Int) := by rw [IntKind.wrap_i64]; omega
  go_enter Try.func56, Try.ntmps56
  go_wp2_with fail
  go_quiet (fail)
  have hW := h.drewN nq
  have kq : Kept (fun k => k = c) w (w.drewN nq) := (Kept.refl _ w).drewN nq
  have zq : w.heap.size ≤ (w.drewN nq).heap.size := Nat.le_refl _
  clear c0 c1 c2 f1
  generalize w.drewN nq = w7 at *
  have c0 := hW.c0
  have c1 := hW.c1
  have i0 : (0 : Int) ≤ (i : Int) := by omega
  have i1 : (i : Int) ≤ (i : Int) + (m : Int) := by omega
  have i2 : (i : Int) + (m : Int) ≤ (cap : Int) := by omega
  go_wp2_with fail
  refine wp_region_quiet_tail (fun w' => ∃ n, w' = World.drewN w7 n) 16 (by kernel_rfl) (by kernel_rfl) ⟨1, rfl⟩ ?_
  simp only [List.take_succ_cons, List.take_zero, List.drop_succ_cons, List.drop_zero]
  repeat (go_big_quiet_step (fail))
  refine wpQuiet_nil ?_
  rintro _ ⟨n1, rfl⟩
  have hW1 := hW.drewN n1
  have k1 : Kept (fun k => k = c) w (w7.drewN n1) := kq.drewN n1
  have z1 : w.heap.size ≤ (w7.drewN n1).heap.size := zq
  clear c0 c1
  generalize w7.drewN n1 = w8 at *
  have hcut := SlI.cut hW1.sl i m hn
  obtain ⟨A, hA⟩ : ∃ A, A = if cap = i then a else Option.map (fun x => x.add i) a := ⟨_, rfl⟩
  have e3 : i + m - i = m := by omega
  rw [e3] at hcut ⊢
  rw [← hA] at hcut ⊢
  have hnil := h.nil
  have hnA : A = none → cap - i = 0 := fun hn => by
    have ha : a = none := by rw [hA] at hn; split at hn <;> simp_all
    have := hnil ha
    omega
  have HNA := Lib.hid hnA
  have E2 := Lib.hid e2
  have cw1 := hW1.c1
  have fw1 := hW1.fr 1
  clear hnA hnil hA e1 e2 e3
  clear cw1 fw1
  go_wp2_with (first
    | (at_builtin
       refine wpList_appJ rfl (.tmp 29) (.tmp 44) _ rfl .u8 w.heap.size 5 _ 1 Try.underlying22 Try.infoU8 rfl (.slice none 0 0) [] rfl (Ow.nil _ _ _ _) A m (cap - i) ((z.drop i).take m) rfl hcut HNA.out (by simp; omega) (by simp; omega) z1 ?_
       intro v' w' ow' hg' st'
       have kn : Kept (fun _ => False) w8 w' := (Kept.of_grown hg').mono (fun i hi => by simp [Value.ownBlock] at hi)
       have hC := hW1.kept kn (fun h => h) (fun _ _ h => h)
       have d1 := hC.c1
       have g1 := hC.fr 1
       clear hg' st'))
  go_ret
  have hS := hC.setI (i + m) hn
  have hK : Kept (fun k => k = c) w (w'.setCell ⟨c, 1, none⟩ (.int .i64 (i + m : Nat))) := (k1.trans kn (fun _ h => h.elim)).setCell (p := ⟨c, 1, none⟩) (.inl rfl) _
  have hO : Ow .u8 5 w.heap.size (w'.setCell ⟨c, 1, none⟩ (.int .i64 (i + m : Nat))) v' ((z.drop i).take m) := ow'.kept2 ((Kept.refl (fun k => k = c) w').setCell (p := ⟨c, 1, none⟩) (.inl rfl) _) (fun g hg e => by have := (ow'.lt g hg).1; omega)
  rw [show ((i + m : Nat) : Int) = (i : Int) + (m : Int) by omega] at hS hK hO
  exact ⟨v', rfl, hO, hS, hK⟩
/-- The reference's next bytes, copied. -/
theorem rraw_calls (w : World) (c : Nat) (a : Option Addr) (cap : Nat) (z : List Int) (i : Nat) (e n : Int) (h : CurR w c a cap z i e) (hz : z.length ≤ 140737488355328) (ha : ∀ x, a = some x → x.block < w.heap.size) :
    Calls Try.prog 56 #[.pointer (some ⟨c, 0, none⟩), .int .i64 n] w (RawR w c a cap z (tk z i e n)) := by
  unfold tk
  by_cases h0 : e = 0
  · subst h0
    rw [if_neg (by simp)]
    by_cases h1 : n < 0 ∨ (z.length : Int) - i < n
    · rw [if_pos h1]; exact rraw_short w c a cap z i n h h1
    · rw [if_neg h1]
      obtain ⟨m, rfl⟩ : ∃ m : Nat, n = m := ⟨n.toNat, by omega⟩
      rw [show ((m : Int)).toNat = m by simp]
      exact rraw_ok w c a cap z i m h (by omega) hz ha
  · rw [if_pos h0]; exact rraw_bad w c a cap z i e n h h0
end Go.Proofs.Ytgkbkkhlnidigaa
