/- SamesameB2 RankSize SamesameBytes18, laid as one. -/
import Derived.Test.YtgajpekolamjbaaDoorProg
import Derived.Test.YtgajpekolamjbaaDoorBase
import Derived.Test.YtgajpekolamjbaaDoorReg
import Derived.BigQuiet
import Derived.Test.YtgajpekolamjbaaDoorRankCut
set_option linter.unusedVariables false
set_option linter.unusedSimpArgs false
/- tessera/tesseralaw02.sameBytes: are two slices the same, number by number? -/
namespace Go.Proofs.YtgajpekolamjbaaDoor
open Go.RowKit Go.Tk
end Go.Proofs.YtgajpekolamjbaaDoor
/- rank.Size and the document's Size: one number. -/
namespace Go.Proofs.YtgajpekolamjbaaDoor
open Go.RowKit Go.Tk
theorem parts_end (a b c d e : Value) (w : World) : (Instr.field 82 (.agg #[a, b, c, d, e]) 4).run Tryd.prog w = .ok e w := by kernel_rfl
/-- How many bytes a vector has. -/
def sizeI (n ones : Int) : Int := 8 + (n + 8 - 1) / 8 + 4 * ((n + 2048 - 1) / 2048) + 2 * ((n + 256 - 1) / 256) + 4 * ((ones + 512 - 1) / 512)
theorem rup_calls (n by_ : Int) (w : World) (h0 : 0 ≤ n) (h1 : n ≤ 67108864) (h2 : 1 ≤ by_) (h3 : by_ ≤ 2048) :
    Calls Tryd.prog 31 #[.int .i64 n, .int .i64 by_] w fun e w' => e = .returned (.int .i64 ((n + by_ - 1) / by_)) ∧ w = w' := by
  go_enter Tryd.func31, Tryd.ntmps31
  go_wp2
  go_ret
  exact ⟨rfl, rfl⟩
theorem size_yes (n ones : Int) (w : World) (h0 : 0 ≤ n) (h1 : n ≤ 67108864) (h2 : 0 ≤ ones) (h3 : ones ≤ n) :
    Calls Tryd.prog 15 #[.int .i64 n, .int .i64 ones] w fun e w' => e = .returned (.int .i64 (sizeI n ones)) ∧ Below w.heap.size w w' := by
  have hf := parts_end
  go_enter Tryd.func15, Tryd.ntmps15
  go_wp2_with (go_at_call 27; refine (cut_calls _ _ _ h0 h1 h2 h3).mono ?_; unfold cutV; rintro e w1 ⟨rfl, hb⟩)
  go_ret
  exact ⟨rfl, hb⟩
theorem rsize_yes (n ones : Int) (w : World) (h0 : 0 ≤ n) (h1 : n ≤ 67108864) (h2 : 0 ≤ ones) (h3 : ones ≤ n) :
    Calls Tryd.prog 20 #[.int .i64 n, .int .i64 ones] w fun e w' => e = .returned (.int .i64 (sizeI n ones)) ∧ w = w' := by
  go_enter Tryd.func20, Tryd.ntmps20
  go_wp2_with (go_at_call 31; refine (rup_calls _ _ _ (by omega) (by omega) (by omega) (by omega)).mono ?_; rintro e w' ⟨rfl, rfl⟩)
  go_ret
  exact ⟨rfl, rfl⟩
theorem size_no (n ones : Int) (w : World) (h : ¬ (0 ≤ n ∧ n ≤ 67108864 ∧ 0 ≤ ones ∧ ones ≤ n)) :
    Calls Tryd.prog 15 #[.int .i64 n, .int .i64 ones] w fun e w' => e = .returned (.int .i64 (-1)) ∧ w = w' := by
  by_cases h0 : n < 0
  · go_enter Tryd.func15, Tryd.ntmps15
    go_wp2
    go_ret
    exact ⟨rfl, rfl⟩
  by_cases h1 : n > 67108864
  · go_enter Tryd.func15, Tryd.ntmps15
    go_wp2
    go_ret
    exact ⟨rfl, rfl⟩
  by_cases h2 : ones < 0
  · go_enter Tryd.func15, Tryd.ntmps15
    go_wp2
    go_ret
    exact ⟨rfl, rfl⟩
  have h3 : ones > n := by omega
  go_enter Tryd.func15, Tryd.ntmps15
  go_wp2
  go_ret
  exact ⟨rfl, rfl⟩
theorem rsize_no (n ones : Int) (w : World) (h : ¬ (0 ≤ n ∧ n ≤ 67108864 ∧ 0 ≤ ones ∧ ones ≤ n)) :
    Calls Tryd.prog 20 #[.int .i64 n, .int .i64 ones] w fun e w' => e = .returned (.int .i64 (-1)) ∧ w = w' := by
  by_cases h0 : n < 0
  · go_enter Tryd.func20, Tryd.ntmps20
    go_wp2
    go_ret
    exact ⟨rfl, rfl⟩
  by_cases h1 : n > 67108864
  · go_enter Tryd.func20, Tryd.ntmps20
    go_wp2
    go_ret
    exact ⟨rfl, rfl⟩
  by_cases h2 : ones < 0
  · go_enter Tryd.func20, Tryd.ntmps20
    go_wp2
    go_ret
    exact ⟨rfl, rfl⟩
  have h3 : ones > n := by omega
  go_enter Tryd.func20, Tryd.ntmps20
  go_wp2
  go_ret
  exact ⟨rfl, rfl⟩
end Go.Proofs.YtgajpekolamjbaaDoor
/- tessera/tesseralaw18.sameBytes: are two slices the same, number by number? -/
namespace Go.Proofs.YtgajpekolamjbaaDoor
open Go.RowKit Go.Tk
theorem sameBytes18_calls (w : World) (a1 : Option Addr) (n1 c1 : Nat) (z1 : List Int) (a2 : Option Addr) (n2 c2 : Nat) (z2 : List Int) (h1 : SlI .u8 w a1 n1 c1 z1) (h2 : SlI .u8 w a2 n2 c2 z2) :
    Calls Tryd.prog 24 #[.slice a1 n1 c1, .slice a2 n2 c2] w fun e w' => e = .returned (.bool (sameB z1 z2)) ∧ ∃ n, w' = w.drewN n := by
  have l1 := h1.len
  have l2 := h2.len
  have m1 := h1.le
  have m2 := h1.max
  by_cases hn : n1 = n2
  · have hne : ((n1 : Int) != (n2 : Int)) = false := by simp [hn]
    have L1 := Lib.hid l1
    have L2 := Lib.hid l2
    have HN := Lib.hid hn
    clear l1 l2 hn
    go_enter Tryd.func24, Tryd.ntmps24
    go_wp2
    go_loopw [5] (fun i wr => ∃ k n, k ≤ n1 ∧ i = .int .i64 (k : Nat) ∧ wr = w.drewN n ∧ z1.take k = z2.take k) (fun i _ => n1 - (intOf i).toNat)
    case atStart => exact ⟨0, 0, Nat.zero_le _, rfl, rfl, rfl⟩
    case round =>
      obtain ⟨k, n, hk, rfl, rfl, ht⟩ := hrel
      have HT := Lib.hid ht
      clear ht
      by_cases hlt : k < n1
      · obtain ⟨b1, o1, rfl, e1⟩ := h1.cell k hlt
        obtain ⟨b2, o2, rfl, e2⟩ := h2.cell k (by have := HN.out; omega)
        have hlt2 : k < n2 := by have := HN.out; omega
        obtain ⟨x, hx⟩ : ∃ x, x = z1.getD k 0 := ⟨_, rfl⟩
        obtain ⟨y, hy⟩ : ∃ y, y = z2.getD k 0 := ⟨_, rfl⟩
        rw [← hx] at e1
        rw [← hy] at e2
        have HX := Lib.hid hx
        have HY := Lib.hid hy
        clear hx hy
        by_cases hxy : x = y
        · have hb : (x != y) = false := by simp [hxy]
          have HE := Lib.hid hxy
          clear hxy
          go_wp2_with fail
          go_quiet (fail)
          go_wp2
          go_roundw
          case rel => exact ⟨k + 1, _, by omega, by go_num, rfl, take_step HT.out (by rw [L1.out]; omega) (by rw [L2.out]; omega) (by rw [← HX.out, ← HY.out]; exact HE.out)⟩
          case measure => simp [intOf]; omega
        · have hb : (x != y) = true := by simp [hxy]
          have HE := Lib.hid hxy
          clear hxy
          go_wp2_with fail
          go_quiet (fail)
          go_wp2
          go_ret
          exact ⟨ret_bool (sameB_no (fun h => HE.out (by rw [HX.out, HY.out, h]))).symm, _, World.drewN_drewN _ _ _⟩
      · go_wp2
        go_ret
        exact ⟨ret_bool (sameB_yes (by have := HT.out; rw [List.take_of_length_le (by rw [L1.out]; omega), List.take_of_length_le (by rw [L2.out, ← HN.out]; omega)] at this; exact this)).symm, _, rfl⟩
  · have hne : ((n1 : Int) != (n2 : Int)) = true := by simp; omega
    have hs : sameB z1 z2 = false := sameB_no (fun h => hn (by rw [← l1, ← l2, h]))
    have HS := Lib.hid hs
    clear l1 l2 hn hs
    go_enter Tryd.func24, Tryd.ntmps24
    go_wp2
    go_ret
    exact ⟨ret_bool HS.out.symm, 0, rfl⟩
end Go.Proofs.YtgajpekolamjbaaDoor
