/- SamesameB2 RankCut RankSize Samesame SamesameBytes18, laid as one. -/
import Derived.Test.YtgajpekolamjbaaProg
import Derived.Test.YtgajpekolamjbaaBitsNum
import Derived.Test.YtgajpekolamjbaaReg
import Derived.BigQuiet
import Derived.WalkKit
set_option linter.unusedVariables false
set_option linter.unusedSimpArgs false
/- tessera/tesseralaw02.sameBytes: are two slices the same, number by number? -/
namespace Go.Proofs.Ytgajpekolamjbaa
open Go.RowKit Go.Tk
end Go.Proofs.Ytgajpekolamjbaa
/- rank.up, rank.cut: what they compute. -/
namespace Go.Proofs.Ytgajpekolamjbaa
open Go.RowKit Go.Tk
theorem up_calls (n by_ : Int) (w : World) (h0 : 0 ≤ n) (h1 : n ≤ 67108864) (h2 : 1 ≤ by_) (h3 : by_ ≤ 2048) :
    Calls Try.prog 79 #[.int .i64 n, .int .i64 by_] w fun e w' => e = .returned (.int .i64 ((n + by_ - 1) / by_)) ∧ w = w' := by
  go_enter Try.func79, Try.ntmps79
  go_wp2
  go_ret
  exact ⟨rfl, rfl⟩
/-- What cut hands back. -/
def cutV (n ones : Int) : Value := .agg #[.int .i64 8, .int .i64 (8 + (n + 8 - 1) / 8), .int .i64 (8 + (n + 8 - 1) / 8 + 4 * ((n + 2048 - 1) / 2048)), .int .i64 (8 + (n + 8 - 1) / 8 + 4 * ((n + 2048 - 1) / 2048) + 2 * ((n + 256 - 1) / 256)),
  .int .i64 (8 + (n + 8 - 1) / 8 + 4 * ((n + 2048 - 1) / 2048) + 2 * ((n + 256 - 1) / 256) + 4 * ((ones + 512 - 1) / 512))]
theorem cut_calls (n ones : Int) (w : World) (h0 : 0 ≤ n) (h1 : n ≤ 67108864) (h2 : 0 ≤ ones) (h3 : ones ≤ n) :
    Calls Try.prog 82 #[.int .i64 n, .int .i64 ones] w fun e w' => e = .returned (cutV n ones) ∧ Below w.heap.size w w' := by
  go_enter Try.func82, Try.ntmps82
  go_wp2_with fail
  refine wp_region_quiet_tail (fun w' => ∃ n, w' = World.drewN _ n) 6 (by kernel_rfl) (by kernel_rfl) ⟨1, rfl⟩ ?_
  simp only [List.take_succ_cons, List.take_zero, List.drop_succ_cons, List.drop_zero]
  repeat (go_big_quiet_step ((go_at_call 79; exact quiet_eq (up_calls _ _ _ (by omega) (by omega) (by omega) (by omega)))))
  refine wpQuiet_nil ?_
  rintro _ ⟨n1, rfl⟩
  go_wp2_with fail
  refine wp_region_quiet_tail (fun w' => ∃ n, w' = World.drewN _ n) 7 (by kernel_rfl) (by kernel_rfl) ⟨1, rfl⟩ ?_
  simp only [List.take_succ_cons, List.take_zero, List.drop_succ_cons, List.drop_zero]
  repeat (go_big_quiet_step ((go_at_call 79; exact quiet_eq (up_calls _ _ _ (by omega) (by omega) (by omega) (by omega)))))
  refine wpQuiet_nil ?_
  rintro _ ⟨n1, rfl⟩
  go_wp2_with fail
  refine wp_region_quiet_tail (fun w' => ∃ n, w' = World.drewN _ n) 7 (by kernel_rfl) (by kernel_rfl) ⟨1, rfl⟩ ?_
  simp only [List.take_succ_cons, List.take_zero, List.drop_succ_cons, List.drop_zero]
  repeat (go_big_quiet_step ((go_at_call 79; exact quiet_eq (up_calls _ _ _ (by omega) (by omega) (by omega) (by omega)))))
  refine wpQuiet_nil ?_
  rintro _ ⟨n1, rfl⟩
  go_wp2_with fail
  refine wp_region_quiet_tail (fun w' => ∃ n, w' = World.drewN _ n) 7 (by kernel_rfl) (by kernel_rfl) ⟨1, rfl⟩ ?_
  simp only [List.take_succ_cons, List.take_zero, List.drop_succ_cons, List.drop_zero]
  repeat (go_big_quiet_step ((go_at_call 79; exact quiet_eq (up_calls _ _ _ (by omega) (by omega) (by omega) (by omega)))))
  refine wpQuiet_nil ?_
  rintro _ ⟨n1, rfl⟩
  go_wp2_with fail
  exact bodyPost_ret (v := cutV n ones) (by simp [results, Try.results82, go_sem, cutV]) rfl
    ⟨rfl, by repeat (first | with_reducible exact Below.refl _ _ | with_reducible refine below_drewN ?_ _ | (with_reducible refine Below.setCell ?_ (by simp) _) | (with_reducible refine Below.alloc ?_ (by simp) _))⟩
end Go.Proofs.Ytgajpekolamjbaa
/- rank.Size and the document's Size: one number. -/
namespace Go.Proofs.Ytgajpekolamjbaa
open Go.RowKit Go.Tk
theorem parts_end (a b c d e : Value) (w : World) : (Instr.field 138 (.agg #[a, b, c, d, e]) 4).run Try.prog w = .ok e w := by kernel_rfl
/-- How many bytes a vector has. -/
def sizeI (n ones : Int) : Int := 8 + (n + 8 - 1) / 8 + 4 * ((n + 2048 - 1) / 2048) + 2 * ((n + 256 - 1) / 256) + 4 * ((ones + 512 - 1) / 512)
theorem size_yes (n ones : Int) (w : World) (h0 : 0 ≤ n) (h1 : n ≤ 67108864) (h2 : 0 ≤ ones) (h3 : ones ≤ n) :
    Calls Try.prog 57 #[.int .i64 n, .int .i64 ones] w fun e w' => e = .returned (.int .i64 (sizeI n ones)) ∧ Below w.heap.size w w' := by
  have hf := parts_end
  go_enter Try.func57, Try.ntmps57
  go_wp2_with (go_at_call 82; refine (cut_calls _ _ _ h0 h1 h2 h3).mono ?_; unfold cutV; rintro e w1 ⟨rfl, hb⟩)
  go_ret
  exact ⟨rfl, hb⟩
theorem size_no (n ones : Int) (w : World) (h : ¬ (0 ≤ n ∧ n ≤ 67108864 ∧ 0 ≤ ones ∧ ones ≤ n)) :
    Calls Try.prog 57 #[.int .i64 n, .int .i64 ones] w fun e w' => e = .returned (.int .i64 (-1)) ∧ w = w' := by
  by_cases h0 : n < 0
  · go_enter Try.func57, Try.ntmps57
    go_wp2
    go_ret
    exact ⟨rfl, rfl⟩
  by_cases h1 : n > 67108864
  · go_enter Try.func57, Try.ntmps57
    go_wp2
    go_ret
    exact ⟨rfl, rfl⟩
  by_cases h2 : ones < 0
  · go_enter Try.func57, Try.ntmps57
    go_wp2
    go_ret
    exact ⟨rfl, rfl⟩
  have h3 : ones > n := by omega
  go_enter Try.func57, Try.ntmps57
  go_wp2
  go_ret
  exact ⟨rfl, rfl⟩
end Go.Proofs.Ytgajpekolamjbaa
/- tessera/tesseralaw01.Same: are two slices the same, number by number? -/
namespace Go.Proofs.Ytgajpekolamjbaa
open Go.RowKit Go.Tk
end Go.Proofs.Ytgajpekolamjbaa
/- tessera/tesseralaw18.sameBytes: are two slices the same, number by number? -/
namespace Go.Proofs.Ytgajpekolamjbaa
open Go.RowKit Go.Tk
theorem sameBytes18_calls (w : World) (a1 : Option Addr) (n1 c1 : Nat) (z1 : List Int) (a2 : Option Addr) (n2 c2 : Nat) (z2 : List Int) (h1 : SlI .u8 w a1 n1 c1 z1) (h2 : SlI .u8 w a2 n2 c2 z2) :
    Calls Try.prog 12 #[.slice a1 n1 c1, .slice a2 n2 c2] w fun e w' => e = .returned (.bool (sameB z1 z2)) ∧ ∃ n, w' = w.drewN n := by
  have l1 := h1.len
  have l2 := h2.len
  have m1 := h1.le
  have m2 := h1.max
  by_cases hn : n1 = n2
  · have hne : ((n1 : Int) != (n2 : Int)) = false := by simp [hn]
    have L1 := Lib.hid l1
    have L2 := Lib.hid l2
    have HN := Lib.hid hn
    clear l1 l2 hn
    go_enter Try.func12, Try.ntmps12
    go_wp2
    go_loopw [5] (fun i wr => ∃ k n, k ≤ n1 ∧ i = .int .i64 (k : Nat) ∧ wr = w.drewN n ∧ z1.take k = z2.take k) (fun i _ => n1 - (intOf i).toNat)
    case atStart => exact ⟨0, 0, Nat.zero_le _, rfl, rfl, rfl⟩
    case round =>
      obtain ⟨k, n, hk, rfl, rfl, ht⟩ := hrel
      have HT := Lib.hid ht
      clear ht
      by_cases hlt : k < n1
      · obtain ⟨b1, o1, rfl, e1⟩ := h1.cell k hlt
        obtain ⟨b2, o2, rfl, e2⟩ := h2.cell k (by have := HN.out; omega)
        have hlt2 : k < n2 := by have := HN.out; omega
        obtain ⟨x, hx⟩ : ∃ x, x = z1.getD k 0 := ⟨_, rfl⟩
        obtain ⟨y, hy⟩ : ∃ y, y = z2.getD k 0 := ⟨_, rfl⟩
        rw [← hx] at e1
        rw [← hy] at e2
        have HX := Lib.hid hx
        have HY := Lib.hid hy
        clear hx hy
        by_cases hxy : x = y
        · have hb : (x != y) = false := by simp [hxy]
          have HE := Lib.hid hxy
          clear hxy
          go_wp2_with fail
          go_quiet (fail)
          go_wp2
          go_roundw
          case rel => exact ⟨k + 1, _, by omega, by go_num, rfl, take_step HT.out (by rw [L1.out]; omega) (by rw [L2.out]; omega) (by rw [← HX.out, ← HY.out]; exact HE.out)⟩
          case measure => simp [intOf]; omega
        · have hb : (x != y) = true := by simp [hxy]
          have HE := Lib.hid hxy
          clear hxy
          go_wp2_with fail
          go_quiet (fail)
          go_wp2
          go_ret
          exact ⟨ret_bool (sameB_no (fun h => HE.out (by rw [HX.out, HY.out, h]))).symm, _, World.drewN_drewN _ _ _⟩
      · go_wp2
        go_ret
        exact ⟨ret_bool (sameB_yes (by have := HT.out; rw [List.take_of_length_le (by rw [L1.out]; omega), List.take_of_length_le (by rw [L2.out, ← HN.out]; omega)] at this; exact this)).symm, _, rfl⟩
  · have hne : ((n1 : Int) != (n2 : Int)) = true := by simp; omega
    have hs : sameB z1 z2 = false := sameB_no (fun h => hn (by rw [← l1, ← l2, h]))
    have HS := Lib.hid hs
    clear l1 l2 hn hs
    go_enter Try.func12, Try.ntmps12
    go_wp2
    go_ret
    exact ⟨ret_bool HS.out.symm, 0, rfl⟩
end Go.Proofs.Ytgajpekolamjbaa
