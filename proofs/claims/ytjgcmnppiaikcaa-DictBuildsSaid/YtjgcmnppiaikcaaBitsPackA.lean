/- bits.Pack's look at the widths; fits, room. -/
import Derived.Test.YtjgcmnppiaikcaaBitsW
set_option linter.unusedVariables false
set_option linter.unusedSimpArgs false
namespace Go.Tk
/-- Is one of the numbers wider than so many bits? -/
def anyW (zs : List Int) (wd : Int) : Bool := zs.any fun x => decide (wd < bw x)
def U64 (zs : List Int) : Prop := ∀ i, i < zs.length → 0 ≤ zs.getD i 0 ∧ zs.getD i 0 < 18446744073709551616
theorem anyW_yes {zs : List Int} {wd : Int} {k : Nat} (hk : k < zs.length) (h : wd < bw (zs.getD k 0)) : anyW zs wd = true := by
  unfold anyW
  rw [List.any_eq_true]
  exact ⟨zs[k], List.getElem_mem hk, by simpa [hk] using h⟩
theorem anyW_no {zs : List Int} {wd : Int} (h : ∀ i, i < zs.length → bw (zs.getD i 0) ≤ wd) : anyW zs wd = false := by
  unfold anyW
  rw [List.any_eq_false]
  intro x hx
  obtain ⟨i, hi, rfl⟩ := List.getElem_of_mem hx
  have := h i hi
  simp [hi] at this ⊢
  exact this
theorem anyW_le {zs : List Int} {wd : Int} (h : anyW zs wd = false) : ∀ i, i < zs.length → bw (zs.getD i 0) ≤ wd := by
  intro i hi
  rcases Int.lt_or_le wd (bw (zs.getD i 0)) with hh | hh
  · rw [anyW_yes hi hh] at h; cases h
  · exact hh
end Go.Tk
namespace Go.Proofs.Ytjgcmnppiaikcaa
open Go.RowKit Go.Tk
theorem fits_calls (wd : Int) (w : World) : Calls Try.prog 61 #[.int .i64 wd] w fun e w' => e = .returned (.bool (decide (0 ≤ wd ∧ wd ≤ 64))) ∧ w = w' := by
  by_cases h0 : 0 ≤ wd
  · go_enter Try.func61, Try.ntmps61
    go_wp2
    go_ret
    exact ⟨ret_bool (by simp [h0]), rfl⟩
  · go_enter Try.func61, Try.ntmps61
    go_wp2
    go_ret
    exact ⟨ret_bool (by simp; intro; omega), rfl⟩
theorem room_calls (n wd : Int) (w : World) (h0 : 0 ≤ n * wd) (h1 : n * wd ≤ 4611686018427387904) : Calls Try.prog 64 #[.int .i64 n, .int .i64 wd] w fun e w' => e = .returned (.int .i64 ((n * wd + 7) / 8)) ∧ w = w' := by
  go_enter Try.func64, Try.ntmps64
  go_wp2
  go_ret
  exact ⟨rfl, rfl⟩
theorem rroom_calls (n wd : Int) (w : World) (h0 : 0 ≤ n * wd) (h1 : n * wd ≤ 4611686018427387904) : Calls Try.prog 66 #[.int .i64 n, .int .i64 wd] w fun e w' => e = .returned (.int .i64 ((n * wd + 7) / 8)) ∧ w = w' := by
  go_enter Try.func66, Try.ntmps66
  go_wp2
  go_ret
  exact ⟨rfl, rfl⟩
theorem wide_calls (x wd : Int) (b : Nat) (w : World) (h0 : 0 ≤ x) (h1 : x < 18446744073709551616) (hc : w.cell? ⟨b, 0, none⟩ = some (.int .i64 wd)) :
    Calls Try.prog 63 #[.int .u64 x, .pointer (some ⟨b, 0, none⟩)] w fun e w' => e = .returned (.bool (decide (wd < bw x))) ∧ ∃ n, w' = w.drewN n := by
  go_enter Try.func63, Try.ntmps63
  go_wp2_with fail
  go_quiet ((go_at_call 37; exact quiet_eq (width_calls _ _ h0 h1)))
  go_wp2
  go_ret
  exact ⟨rfl, _, rfl⟩
theorem index_calls (w : World) (a : Option Addr) (n c : Nat) (zs : List Int) (h : SlI .u64 w a n c zs) (hu : U64 zs) (wd : Int) (b : Nat) (hc : w.cell? ⟨b, 0, none⟩ = some (.int .i64 wd)) :
    Calls Try.prog 77 #[.slice a n c, .func (.func 63) #[] #[.pointer (some ⟨b, 0, none⟩)]] w fun e w' => ∃ r, e = .returned (.int .i64 r) ∧ (decide (0 ≤ r) = anyW zs wd) ∧ ∃ n, w' = w.drewN n := by
  have l1 := h.len
  have m1 := h.le
  have m2 := h.max
  have L1 := Lib.hid l1
  clear l1
  go_enter Try.func77, Try.ntmps77
  go_wp2
  go_loopw [8] (fun i wr => ∃ k m, k ≤ n ∧ i = .int .i64 (k : Nat) ∧ wr = w.drewN m ∧ ∀ j, j < k → bw (zs.getD j 0) ≤ wd) (fun i _ => n - (intOf i).toNat)
  case atStart => exact ⟨0, 0, Nat.zero_le _, rfl, rfl, fun j hj => by omega⟩
  case round =>
    obtain ⟨k, m, hk, rfl, rfl, ht⟩ := hrel
    have HT := Lib.hid ht
    clear ht
    by_cases hlt : k < n
    · obtain ⟨b1, o1, rfl, e1⟩ := h.cell k hlt
      obtain ⟨u0, u1⟩ := hu k (by rw [L1.out]; exact hlt)
      obtain ⟨x, hx⟩ : ∃ x, x = zs.getD k 0 := ⟨_, rfl⟩
      rw [← hx] at e1 u0 u1
      have HX := Lib.hid hx
      clear hx
      have hcd : (w.drewN m).cell? ⟨b, 0, none⟩ = some (.int .i64 wd) := hc
      by_cases hw : wd < bw x
      · go_wp2_with (go_at_call 63; refine (wide_calls _ _ _ _ u0 u1 hcd).mono ?_; rintro e w' ⟨rfl, m3, rfl⟩)
        go_ret
        exact ⟨_, rfl, by rw [anyW_yes (k := k) (by rw [L1.out]; exact hlt) (by rw [← HX.out]; exact hw)]; simp, _, rfl⟩
      · go_wp2_with (go_at_call 63; refine (wide_calls _ _ _ _ u0 u1 hcd).mono ?_; rintro e w' ⟨rfl, m3, rfl⟩)
        go_roundw
        case rel => exact ⟨k + 1, _, by omega, by go_num, rfl, fun j hj => by
          by_cases e : j = k
          · subst e; rw [← HX.out]; omega
          · exact HT.out j (by omega)⟩
        case measure => simp [intOf]; omega
    · go_wp2
      go_ret
      have := anyW_no (zs := zs) (wd := wd) (fun j hj => HT.out j (by have := L1.out; omega))
      exact ⟨_, rfl, by rw [this]; simp, _, rfl⟩
end Go.Proofs.Ytjgcmnppiaikcaa
