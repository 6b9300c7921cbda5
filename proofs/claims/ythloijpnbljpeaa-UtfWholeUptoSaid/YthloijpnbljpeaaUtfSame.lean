/- sameSeen: at two slices that own the same. -/
import Derived.Test.YthloijpnbljpeaaUtfBox
import Derived.Laws.StructEq
import Derived.BigQuiet
import Derived.Deep.QuietTactic
set_option linter.unusedVariables false
set_option linter.unusedSimpArgs false
namespace Go.Tk
open Go Go.RowKit
theorem seenCs_at : ∀ (L : List (Nat × Int)) (k : Nat) (h : k < L.length), (seenCs L)[k * 2]? = some (.int .i64 (L[k].1 : Nat)) ∧ (seenCs L)[k * 2 + 1]? = some (.int .i64 L[k].2)
  | [], k, h => by simp at h
  | x :: L, 0, _ => by simp [seenCs, seenC]
  | x :: L, k + 1, h => by
    have ih := seenCs_at L k (by simpa using h)
    have e : seenCs (x :: L) = .int .i64 (x.1 : Nat) :: .int .i64 x.2 :: seenCs L := by simp [seenCs, seenC]
    rw [e, show (k + 1) * 2 = k * 2 + 1 + 1 by omega]
    simpa using ih
end Go.Tk
namespace Go.Proofs.Ythloijpnbljpeaa
open Go.RowKit Go.Shelf Go.Tk
theorem seen_fields : Try.prog.underlying 38 = some (.struct (Try.prog.fieldsOf 38)) := by kernel_rfl
theorem seen_stood : Try.prog.stoodInHeld 38 = false := by kernel_rfl
theorem seen_guard : Try.prog.eqGuardType Try.prog.depth 38 = false := by kernel_rfl
theorem seen_neq (a b : Int) (w : World) : (binOp .neq 38 (.agg #[.int .i64 a, .int .i64 b]) (.agg #[.int .i64 a, .int .i64 b])).run Try.prog w = .ok (.bool false) w := by
  rw [run_neq_struct, run_equalIn_agg w 9999 _ _ _ seen_fields seen_stood]
  unfold Program.fieldsOf
  rw [Try.underlying38]
  simp [go_sem, Op.eqFields, part]
theorem seen_guarded (op : BinOp) (x y : Operand) (p q : Array Value) (w : World) : (eqGuard op 38 x y (.agg p) (.agg q)).run Try.prog w = .ok () w := run_eqGuard_agg w op _ x y p q seen_guard
set_option maxHeartbeats 1000000 in
theorem sameSeen_calls (w : World) (n₀ n₁ : Nat) (v1 v2 : Value) (L : List (Nat × Int)) (hL : L.length ≤ 9223372036854775807) (h1 : w.ownsRow n₀ 38 2 v1 L.length (seenCs L)) (h2 : w.ownsRow n₁ 38 2 v2 L.length (seenCs L)) :
    Calls Try.prog 16 #[v1, v2] w fun e w' => e = .returned (.bool true) ∧ ∃ n, w' = w.drewN n := by
  obtain ⟨a1, c1, rfl⟩ := ownsRow_slice h1
  obtain ⟨a2, c2, rfl⟩ := ownsRow_slice h2
  have hat : ∀ k, (hk : k < L.length) → ∃ g1 g2, a1 = some ⟨g1, 0, none⟩ ∧ a2 = some ⟨g2, 0, none⟩ ∧ w.cell? ⟨g1, k * 2, none⟩ = some (.int .i64 (L[k].1 : Nat)) ∧ w.cell? ⟨g1, k * 2 + 1, none⟩ = some (.int .i64 L[k].2) ∧
      w.cell? ⟨g2, k * 2, none⟩ = some (.int .i64 (L[k].1 : Nat)) ∧ w.cell? ⟨g2, k * 2 + 1, none⟩ = some (.int .i64 L[k].2) := by
    intro k hk
    have hs := seenCs_at L k hk
    rcases h1.2 with ⟨hv, h0⟩ | ⟨g1, cap1, cur1, hv1, _⟩
    · omega
    rcases h2.2 with ⟨hv, h0⟩ | ⟨g2, cap2, cur2, hv2, _⟩
    · omega
    simp at hv1 hv2
    obtain ⟨rfl, rfl⟩ := hv1
    obtain ⟨rfl, rfl⟩ := hv2
    have x1 := World.ownsRow.cells h1 (g := g1) rfl
    have x2 := World.ownsRow.cells h2 (g := g2) rfl
    refine ⟨g1, g2, rfl, rfl, ?_, ?_, ?_, ?_⟩
    · have := x1 (k * 2) _ hs.1; rw [Addr.add_lit, Nat.zero_add] at this; exact this
    · have := x1 (k * 2 + 1) _ hs.2; rw [Addr.add_lit, Nat.zero_add] at this; exact this
    · have := x2 (k * 2) _ hs.1; rw [Addr.add_lit, Nat.zero_add] at this; exact this
    · have := x2 (k * 2 + 1) _ hs.2; rw [Addr.add_lit, Nat.zero_add] at this; exact this
  have HAT := Lib.hid hat
  have hne : ((L.length : Int) != (L.length : Int)) = false := by simp
  obtain ⟨N, hN⟩ : ∃ N, N = L.length := ⟨_, rfl⟩
  rw [← hN] at hne hL ⊢
  have HN := Lib.hid hN
  clear hat h1 h2 hN
  have hgd := seen_guarded
  go_enter Try.func16, Try.ntmps16
  go_wp2
  go_loopw [5] (fun i wr => ∃ k n, k ≤ N ∧ i = .int .i64 (k : Nat) ∧ wr = w.drewN n) (fun i _ => N - (intOf i).toNat)
  case atStart => exact ⟨0, 0, Nat.zero_le _, rfl, rfl⟩
  case round =>
    obtain ⟨k, n, hk, rfl, rfl⟩ := hrel
    by_cases hlt : k < N
    · obtain ⟨g1, g2, rfl, rfl, y1, y2, y3, y4⟩ := HAT.out k (by have := HN.out; omega)
      obtain ⟨p, hp⟩ : ∃ p : Int, p = ((L[k]'(by have := HN.out; omega)).1 : Nat) := ⟨_, rfl⟩
      obtain ⟨q, hq⟩ : ∃ q : Int, q = (L[k]'(by have := HN.out; omega)).2 := ⟨_, rfl⟩
      rw [← hp] at y1 y3
      rw [← hq] at y2 y4
      have hnq := seen_neq p q
      clear hp hq
      go_wp2_with fail
      go_quiet (fail)
      go_wp2
      go_roundw
      case rel => exact ⟨k + 1, _, by omega, by go_num, rfl⟩
      case measure => simp [intOf]; omega
    · go_wp2
      go_ret
      exact ⟨rfl, _, rfl⟩
end Go.Proofs.Ythloijpnbljpeaa
