/- Cursors: Upto, Varint. -/
import Derived.Test.YtgkbkkhlnidigaaBitsCur7
set_option linter.unusedVariables false
set_option linter.unusedSimpArgs false
namespace Go.Proofs.Ytgkbkkhlnidigaa
open Go.RowKit Go.Tk
theorem pkF_len : ∀ (l : List Int) (i : Nat) (n : Int), ∃ k : Nat, (pkF l i n).2.1 = k ∧ k ≤ i + l.length ∧ (k = 0 ∨ i < k) ∧ ((pkF l i n).2.2 = 0 ∨ (pkF l i n).2.2 = 10 ∨ (pkF l i n).2.2 = 11)
  | [], i, n => ⟨0, by simp [pkF], by simp, .inl rfl, by simp [pkF]⟩
  | b :: r, i, n => by
    simp only [pkF]
    split
    · exact ⟨0, by simp, by simp, .inl rfl, by simp⟩
    · split
      · exact ⟨i + 1, by simp, by simp only [List.length_cons]; omega, .inr (by omega), by simp⟩
      · obtain ⟨k, h1, h2, h3, h4⟩ := pkF_len r (i + 1) (bits .or .u64 n (IntKind.u64.wrap (b % 128 * 2 ^ (7 * i))))
        exact ⟨k, h1, by simp only [List.length_cons]; omega, by omega, h4⟩
/-- What Upto answers, and where it leaves the cursor. -/
def upS (z : List Int) (i : Nat) (e most : Int) : Int × Nat × Int :=
  if ¬ e = 0 then (0, i, e) else if ¬ (pk (z.drop i)).2.2 = 0 then (0, i, (pk (z.drop i)).2.2) else if most < (pk (z.drop i)).1 then (0, i, 11) else ((pk (z.drop i)).1, i + (pk (z.drop i)).2.1.toNat, 0)
theorem cupto_calls (w : World) (c : Nat) (a : Option Addr) (cap : Nat) (z : List Int) (i : Nat) (e most : Int) (h : CurC w c a cap z i e) (hz : ∀ x ∈ z, 0 ≤ x ∧ x < 256) :
    Calls Try.prog 59 #[.pointer (some ⟨c, 0, none⟩), .int .u64 most] w fun e' w' => e' = .returned (.int .u64 (upS z i e most).1) ∧ CurC w' c a cap z (upS z i e most).2.1 (upS z i e most).2.2 ∧ Kept (fun k => k = c) w w' := by
  have hP := peek_calls w c a cap z i e h hz
  obtain ⟨k, hk1, hk2, hk3, hk4⟩ := pkF_len (z.drop i) 0 0
  have c2 := h.c2
  have hle := h.le
  have hm := h.sl.max
  have hl := h.sl.le
  have hkl : i + k ≤ z.length := by simp at hk2; omega
  unfold upS
  change (pk (z.drop i)).2.1 = k at hk1
  change (pk (z.drop i)).2.2 = 0 ∨ (pk (z.drop i)).2.2 = 10 ∨ (pk (z.drop i)).2.2 = 11 at hk4
  generalize pk (z.drop i) = t at *
  obtain ⟨n, kk, er⟩ := t
  simp only at hk1 hk4 ⊢
  subst hk1
  clear hk2 hk3
  by_cases h0 : e = 0
  · subst h0
    rw [if_neg (by simp)]
    by_cases h1 : er = 0
    · subst h1
      rw [if_neg (by simp)]
      clear hk4
      by_cases h2 : most < n
      · rw [if_pos h2]
        have c2' : ∀ m, (w.drewN m).cell? ⟨c, 2, none⟩ = some (.int .i64 0) := fun _ => c2
        have f2' : ∀ m, (w.drewN m).frozen? ⟨c, 2, none⟩ = false := fun _ => h.fr 2
        go_enter Try.func59, Try.ntmps59
        go_wp2_with (go_at_call 69; refine hP.mono ?_; rintro e' w1 ⟨rfl, n1, rfl⟩; unfold pkV)
        go_ret
        exact ⟨rfl, (h.drewN n1).setE 11, ((Kept.refl (fun k => k = c) w).drewN n1).setCell (p := ⟨c, 2, none⟩) (.inl rfl) _⟩
      · rw [if_neg h2]
        have c1' : ∀ m, (w.drewN m).cell? ⟨c, 1, none⟩ = some (.int .i64 i) := fun _ => h.c1
        have f1' : ∀ m, (w.drewN m).frozen? ⟨c, 1, none⟩ = false := fun _ => h.fr 1
        go_enter Try.func59, Try.ntmps59
        go_wp2_with (go_at_call 69; refine hP.mono ?_; rintro e' w1 ⟨rfl, n1, rfl⟩; unfold pkV)
        go_ret
        have hS := (h.drewN n1).setI (i + k) hkl
        have hK : Kept (fun k => k = c) w ((w.drewN n1).setCell ⟨c, 1, none⟩ (.int .i64 (i + k : Nat))) := ((Kept.refl (fun k => k = c) w).drewN n1).setCell (p := ⟨c, 1, none⟩) (.inl rfl) _
        rw [show ((i + k : Nat) : Int) = (i : Int) + (k : Int) by omega] at hS hK
        exact ⟨rfl, by simpa using hS, hK⟩
    · rw [if_pos h1]
      have c2' : ∀ m, (w.drewN m).cell? ⟨c, 2, none⟩ = some (.int .i64 0) := fun _ => c2
      have f2' : ∀ m, (w.drewN m).frozen? ⟨c, 2, none⟩ = false := fun _ => h.fr 2
      clear hk4
      go_enter Try.func59, Try.ntmps59
      go_wp2_with (go_at_call 69; refine hP.mono ?_; rintro e' w1 ⟨rfl, n1, rfl⟩; unfold pkV)
      go_ret
      exact ⟨rfl, (h.drewN n1).setE er, ((Kept.refl (fun k => k = c) w).drewN n1).setCell (p := ⟨c, 2, none⟩) (.inl rfl) _⟩
  · rw [if_pos h0]
    clear hP hk4
    go_enter Try.func59, Try.ntmps59
    go_wp2
    go_ret
    exact ⟨rfl, h, Kept.refl _ _⟩
theorem cvarint_calls (w : World) (c : Nat) (a : Option Addr) (cap : Nat) (z : List Int) (i : Nat) (e : Int) (h : CurC w c a cap z i e) (hz : ∀ x ∈ z, 0 ≤ x ∧ x < 256) :
    Calls Try.prog 40 #[.pointer (some ⟨c, 0, none⟩)] w fun e' w' => e' = .returned (.int .u64 (upS z i e 18446744073709551615).1) ∧ CurC w' c a cap z (upS z i e 18446744073709551615).2.1 (upS z i e 18446744073709551615).2.2 ∧ Kept (fun k => k = c) w w' := by
  have hU := cupto_calls w c a cap z i e 18446744073709551615 h hz
  generalize upS z i e 18446744073709551615 = t at *
  go_enter Try.func40, Try.ntmps40
  go_wp2_with (go_at_call 59; refine hU.mono ?_; rintro e' w1 ⟨rfl, hC, hk⟩)
  go_ret
  exact ⟨rfl, hC, hk⟩
theorem rupto_calls (w : World) (c : Nat) (a : Option Addr) (cap : Nat) (z : List Int) (i : Nat) (e most : Int) (h : CurR w c a cap z i e) (hz : ∀ x ∈ z, 0 ≤ x ∧ x < 256) :
    Calls Try.prog 60 #[.pointer (some ⟨c, 0, none⟩), .int .u64 most] w fun e' w' => e' = .returned (.int .u64 (upS z i e most).1) ∧ CurR w' c a cap z (upS z i e most).2.1 (upS z i e most).2.2 ∧ Kept (fun k => k = c) w w' := by
  have hN : ∀ m, Calls Try.prog 70 #[.slice (if cap = i then a else Option.map (fun x => x.add i) a) (z.length - i) (cap - i)] (w.drewN m) fun e' w' => e' = .returned (.tuple #[.int .u64 (pk (z.drop i)).1, .int .i64 (pk (z.drop i)).2.1, .int .i64 (pk (z.drop i)).2.2]) ∧ w.drewN m = w' := fun m =>
    number_calls (w.drewN m) _ _ _ (z.drop i) (SlI.tail (h.sl.drewN m) i h.le) (fun x hx => hz x (List.mem_of_mem_drop hx))
  obtain ⟨k, hk1, hk2, hk3, hk4⟩ := pkF_len (z.drop i) 0 0
  have c0 := h.c0
  have c1 := h.c1
  have c2 := h.c2
  have hle := h.le
  have hm := h.sl.max
  have hl := h.sl.le
  have hkl : i + k ≤ z.length := by simp at hk2; omega
  unfold upS
  change (pk (z.drop i)).2.1 = k at hk1
  change (pk (z.drop i)).2.2 = 0 ∨ (pk (z.drop i)).2.2 = 10 ∨ (pk (z.drop i)).2.2 = 11 at hk4
  generalize pk (z.drop i) = t at *
  obtain ⟨n, kk, er⟩ := t
  simp only at hk1 hk4 hN ⊢
  subst hk1
  clear hk2 hk3
  by_cases h0 : e = 0
  · subst h0
    rw [if_neg (by simp)]
    have hF := fun m x => rfail_calls (w.drewN m) c a cap z i 0 (h.drewN m) x
    by_cases h1 : er = 0
    · subst h1
      rw [if_neg (by simp)]
      clear hk4
      by_cases h2 : most < n
      · rw [if_pos h2]
        go_enter Try.func60, Try.ntmps60
        go_wp2_with fail
        go_quiet ((go_at_call 70; with_reducible exact quiet_eq (hN _)))
        generalize (if cap = i then a else Option.map (fun x => x.add i) a) = A
        go_wp2_with (go_at_call 62; refine (hF _ _).mono ?_; rintro e' w1 ⟨rfl, hC, hk⟩)
        go_ret
        exact ⟨rfl, by simpa using hC, ⟨hk.os, hk.tape, hk.output, hk.size, hk.block⟩⟩
      · rw [if_neg h2]
        have c1' : ∀ m, (w.drewN m).cell? ⟨c, 1, none⟩ = some (.int .i64 i) := fun _ => h.c1
        have f1' : ∀ m, (w.drewN m).frozen? ⟨c, 1, none⟩ = false := fun _ => h.fr 1
        go_enter Try.func60, Try.ntmps60
        go_wp2_with fail
        go_quiet ((go_at_call 70; with_reducible exact quiet_eq (hN _)))
        generalize (if cap = i then a else Option.map (fun x => x.add i) a) = A
        go_wp2
        go_ret
        have hS := (h.drewN nq).setI (i + k) hkl
        have hK : Kept (fun k => k = c) w ((w.drewN nq).setCell ⟨c, 1, none⟩ (.int .i64 (i + k : Nat))) := ((Kept.refl (fun k => k = c) w).drewN nq).setCell (p := ⟨c, 1, none⟩) (.inl rfl) _
        rw [show ((i + k : Nat) : Int) = (i : Int) + (k : Int) by omega] at hS hK
        exact ⟨rfl, by simpa using hS, hK⟩
    · rw [if_pos h1]
      clear hk4
      go_enter Try.func60, Try.ntmps60
      go_wp2_with fail
      go_quiet ((go_at_call 70; with_reducible exact quiet_eq (hN _)))
      generalize (if cap = i then a else Option.map (fun x => x.add i) a) = A
      go_wp2_with (go_at_call 62; refine (hF _ _).mono ?_; rintro e' w1 ⟨rfl, hC, hk⟩)
      go_ret
      exact ⟨rfl, by simpa using hC, ⟨hk.os, hk.tape, hk.output, hk.size, hk.block⟩⟩
  · rw [if_pos h0]
    clear hN hk4
    go_enter Try.func60, Try.ntmps60
    go_wp2
    go_ret
    exact ⟨rfl, h, Kept.refl _ _⟩
theorem rcvarint_calls (w : World) (c : Nat) (a : Option Addr) (cap : Nat) (z : List Int) (i : Nat) (e : Int) (h : CurR w c a cap z i e) (hz : ∀ x ∈ z, 0 ≤ x ∧ x < 256) :
    Calls Try.prog 57 #[.pointer (some ⟨c, 0, none⟩)] w fun e' w' => e' = .returned (.int .u64 (upS z i e 18446744073709551615).1) ∧ CurR w' c a cap z (upS z i e 18446744073709551615).2.1 (upS z i e 18446744073709551615).2.2 ∧ Kept (fun k => k = c) w w' := by
  have hU := rupto_calls w c a cap z i e 18446744073709551615 h hz
  generalize upS z i e 18446744073709551615 = t at *
  go_enter Try.func57, Try.ntmps57
  go_wp2_with (go_at_call 60; refine hU.mono ?_; rintro e' w1 ⟨rfl, hC, hk⟩)
  go_ret
  exact ⟨rfl, hC, hk⟩
end Go.Proofs.Ytgkbkkhlnidigaa
