/- Cursors: take. -/
import Derived.Test.YtgkbkkhlnidigaaBitsCur
set_option linter.unusedVariables false
set_option linter.unusedSimpArgs false
namespace Go.Proofs.Ytgkbkkhlnidigaa
open Go.RowKit Go.Tk
/-- What a take of n bytes gives, and where it leaves the cursor. -/
def tk (z : List Int) (i : Nat) (e n : Int) : List Int × Nat × Int :=
  if ¬ e = 0 then ([], i, e) else if n < 0 ∨ (z.length : Int) - i < n then ([], i, 10) else ((z.drop i).take n.toNat, i + n.toNat, 0)
theorem SlI.drop {k : IntKind} {w : World} {b o n cap : Nat} {zs : List Int} (h : SlI k w (some ⟨b, o, none⟩) n cap zs) (m : Nat) (hm : m ≤ n) : SlI k w (some ⟨b, o + m, none⟩) (n - m) (cap - m) (zs.drop m) := by
  have hl := h.len
  have hle := h.le
  have hmx := h.max
  refine ⟨by simp [hl], by omega, by omega, fun i hi => ?_⟩
  obtain ⟨b', o', e, hc⟩ := h.cell (m + i) (by omega)
  obtain ⟨rfl, rfl⟩ : b = b' ∧ o = o' := by simpa using e
  refine ⟨b, o + m, rfl, ?_⟩
  rw [Nat.add_assoc, hc]
  simp
theorem SlI.cut {k : IntKind} {w : World} {a : Option Addr} {n cap : Nat} {zs : List Int} (h : SlI k w a n cap zs) (i m : Nat) (hm : i + m ≤ n) : SlI k w (if cap = i then a else Option.map (fun x => x.add i) a) (i + m - i) (cap - i) ((zs.drop i).take m) := by
  have hl := h.len
  have hle := h.le
  have hmx := h.max
  refine ⟨by simp [hl]; omega, by omega, by omega, fun j hj => ?_⟩
  obtain ⟨b, o, e, hc⟩ := h.cell (i + j) (by omega)
  subst e
  rw [if_neg (by omega)]
  refine ⟨b, o + i, by simp [Addr.add_lit], ?_⟩
  rw [Nat.add_assoc, hc]
  simp [List.getElem?_take, show j < m by omega]
/-- What is known behind a take: bytes where they lie. -/
def TookC (w : World) (c : Nat) (a : Option Addr) (cap : Nat) (z : List Int) (t : List Int × Nat × Int) (e' : Ending) (w' : World) : Prop :=
  ∃ a' c', e' = .returned (.slice a' t.1.length c') ∧ SlI .u8 w' a' t.1.length c' t.1 ∧ (a' = none → c' = 0) ∧ CurC w' c a cap z t.2.1 t.2.2 ∧ Kept (fun k => k = c) w w'
theorem take_bad (w : World) (c : Nat) (a : Option Addr) (cap : Nat) (z : List Int) (i : Nat) (e n : Int) (h : CurC w c a cap z i e) (h0 : ¬ e = 0) :
    Calls Try.prog 66 #[.pointer (some ⟨c, 0, none⟩), .int .i64 n] w (TookC w c a cap z ([], i, e)) := by
  have c2 := h.c2
  go_enter Try.func66, Try.ntmps66
  go_wp2
  go_ret
  exact ⟨none, 0, rfl, ⟨rfl, Nat.le_refl _, by omega, fun i hi => by simp at hi⟩, fun _ => rfl, h, Kept.refl _ _⟩
theorem take_short (w : World) (c : Nat) (a : Option Addr) (cap : Nat) (z : List Int) (i : Nat) (n : Int) (h : CurC w c a cap z i 0) (hn : n < 0 ∨ (z.length : Int) - i < n) :
    Calls Try.prog 66 #[.pointer (some ⟨c, 0, none⟩), .int .i64 n] w (TookC w c a cap z ([], i, 10)) := by
  have c2 := h.c2
  have f2 := h.fr 2
  have hle := h.le
  have hm := h.sl.max
  have hl := h.sl.le
  have c2' : ∀ n, (w.drewN n).cell? ⟨c, 2, none⟩ = some (.int .i64 0) := fun n => c2
  have f2' : ∀ n, (w.drewN n).frozen? ⟨c, 2, none⟩ = false := fun n => f2
  have hL := left_calls w c a cap z i 0 h
  by_cases hneg : n < 0
  · go_enter Try.func66, Try.ntmps66
    go_wp2
    go_ret
    exact ⟨none, 0, rfl, ⟨rfl, Nat.le_refl _, by omega, fun i hi => by simp at hi⟩, fun _ => rfl, h.setE 10, (Kept.refl (fun k => k = c) w).setCell (p := ⟨c, 2, none⟩) (.inl rfl) _⟩
  · have hgt : (z.length : Int) - i < n := by omega
    go_enter Try.func66, Try.ntmps66
    go_wp2_with (go_at_call 25; refine hL.mono ?_; rintro e' w1 ⟨rfl, n1, rfl⟩)
    go_ret
    exact ⟨none, 0, rfl, ⟨rfl, Nat.le_refl _, by omega, fun i hi => by simp at hi⟩, fun _ => rfl, (h.drewN n1).setE 10, ((Kept.refl (fun k => k = c) w).drewN n1).setCell (p := ⟨c, 2, none⟩) (.inl rfl) _⟩
theorem take_ok (w : World) (c : Nat) (a : Option Addr) (cap : Nat) (z : List Int) (i m : Nat) (h : CurC w c a cap z i 0) (hn : i + m ≤ z.length) :
    Calls Try.prog 66 #[.pointer (some ⟨c, 0, none⟩), .int .i64 m] w (TookC w c a cap z ((z.drop i).take m, i + m, 0)) := by
  have c0 := h.c0
  have c1 := h.c1
  have c2 := h.c2
  have f1 := h.fr 1
  have hm := h.sl.max
  have hl := h.sl.le
  have hL := left_calls w c a cap z i 0 h
  have hle := h.le
  have e1 : IntKind.i64.wrap ((i : Int) + (m : Int) - (m : Int)) = (i : Int) := by rw [show (i : Int) + (m : Int) - (m : Int) = (i : Int) by omega, IntKind.wrap_i64]; omega
  have E1 := Lib.hid e1
  clear e1
  go_enter Try.func66, Try.ntmps66
  go_wp2_with (go_at_call 25; refine hL.mono ?_; rintro e' w1 ⟨rfl, n1, rfl⟩)
  have hS := ((h.drewN n1).setI (i + m) hn)
  have hK : Kept (fun k => k = c) w ((w.drewN n1).setCell ⟨c, 1, none⟩ (.int .i64 (i + m : Nat))) := ((Kept.refl (fun k => k = c) w).drewN n1).setCell (p := ⟨c, 1, none⟩) (.inl rfl) _
  rw [show ((i + m : Nat) : Int) = (i : Int) + (m : Int) by omega] at hK hS
  clear c0 c1 c2 f1 hL
  generalize (w.drewN n1).setCell ⟨c, 1, none⟩ (.int .i64 ((i : Int) + (m : Int))) = w7 at *
  have c0 := hS.c0
  have c1 := hS.c1
  rw [show ((i + m : Nat) : Int) = (i : Int) + (m : Int) by omega] at c1
  have i0 : (0 : Int) ≤ (i : Int) := by omega
  have i1 : (i : Int) ≤ (i : Int) + (m : Int) := by omega
  have i2 : (i : Int) + (m : Int) ≤ (cap : Int) := by omega
  have e1 := E1.out
  go_quiet (fail)
  have hcut := SlI.cut (hS.sl.drewN nq) i m hn
  have e2 : i + m - i = m := by omega
  obtain ⟨A, hA⟩ : ∃ A, A = if cap = i then a else Option.map (fun x => x.add i) a := ⟨_, rfl⟩
  rw [e2] at hcut ⊢
  rw [← hA] at hcut ⊢
  have hnil := h.nil
  have hnA : A = none → cap - i = 0 := fun hn => by
    have ha : a = none := by rw [hA] at hn; split at hn <;> simp_all
    have := hnil ha
    omega
  have HNA := Lib.hid hnA
  clear hnA hnil hA e2 e1
  go_wp2
  go_ret
  have e3 : ((z.drop i).take m).length = m := by simp; omega
  exact ⟨A, cap - i, by show _ = Ending.returned (.slice _ ((z.drop i).take m).length _); rw [e3]; rfl, by show SlI .u8 _ _ ((z.drop i).take m).length _ _; rw [e3]; exact hcut, HNA.out, hS.drewN nq, hK.drewN nq⟩
/-- The next bytes, where they lie. -/
theorem take_calls (w : World) (c : Nat) (a : Option Addr) (cap : Nat) (z : List Int) (i : Nat) (e n : Int) (h : CurC w c a cap z i e) :
    Calls Try.prog 66 #[.pointer (some ⟨c, 0, none⟩), .int .i64 n] w (TookC w c a cap z (tk z i e n)) := by
  unfold tk
  by_cases h0 : e = 0
  · subst h0
    rw [if_neg (by simp)]
    by_cases h1 : n < 0 ∨ (z.length : Int) - i < n
    · rw [if_pos h1]; exact take_short w c a cap z i n h h1
    · rw [if_neg h1]
      obtain ⟨m, rfl⟩ : ∃ m : Nat, n = m := ⟨n.toNat, by omega⟩
      rw [show ((m : Int)).toNat = m by simp]
      exact take_ok w c a cap z i m h (by omega)
  · rw [if_pos h0]; exact take_bad w c a cap z i e n h h0
end Go.Proofs.Ytgkbkkhlnidigaa
