/- tessera/tesseralaw18.sameBytes: are two slices the same, number by number? -/
import Derived.Test.YtgajpekolamjbaaProg
import Derived.Test.YtgajpekolamjbaaBase
import Derived.Test.YtgajpekolamjbaaReg
import Derived.BigQuiet
namespace Go.Proofs.Ytgajpekolamjbaa
open Go.RowKit Go.Tk
theorem sameBytes18_calls (w : World) (a1 : Option Addr) (n1 c1 : Nat) (z1 : List Int) (a2 : Option Addr) (n2 c2 : Nat) (z2 : List Int) (h1 : SlI .u8 w a1 n1 c1 z1) (h2 : SlI .u8 w a2 n2 c2 z2) :
    Calls Try.prog 12 #[.slice a1 n1 c1, .slice a2 n2 c2] w fun e w' => e = .returned (.bool (sameB z1 z2)) ∧ ∃ n, w' = w.drewN n := by
  have l1 := h1.len
  have l2 := h2.len
  have m1 := h1.le
  have m2 := h1.max
  by_cases hn : n1 = n2
  · have hne : ((n1 : Int) != (n2 : Int)) = false := by simp [hn]
    have L1 := Lib.hid l1
    have L2 := Lib.hid l2
    have HN := Lib.hid hn
    clear l1 l2 hn
    go_enter Try.func12, Try.ntmps12
    go_wp2
    go_loopw [5] (fun i wr => ∃ k n, k ≤ n1 ∧ i = .int .i64 (k : Nat) ∧ wr = w.drewN n ∧ z1.take k = z2.take k) (fun i _ => n1 - (intOf i).toNat)
    case atStart => exact ⟨0, 0, Nat.zero_le _, rfl, rfl, rfl⟩
    case round =>
      obtain ⟨k, n, hk, rfl, rfl, ht⟩ := hrel
      have HT := Lib.hid ht
      clear ht
      by_cases hlt : k < n1
      · obtain ⟨b1, o1, rfl, e1⟩ := h1.cell k hlt
        obtain ⟨b2, o2, rfl, e2⟩ := h2.cell k (by have := HN.out; omega)
        have hlt2 : k < n2 := by have := HN.out; omega
        obtain ⟨x, hx⟩ : ∃ x, x = z1.getD k 0 := ⟨_, rfl⟩
        obtain ⟨y, hy⟩ : ∃ y, y = z2.getD k 0 := ⟨_, rfl⟩
        rw [← hx] at e1
        rw [← hy] at e2
        have HX := Lib.hid hx
        have HY := Lib.hid hy
        clear hx hy
        by_cases hxy : x = y
        · have hb : (x != y) = false := by simp [hxy]
          have HE := Lib.hid hxy
          clear hxy
          go_wp2_with fail
          go_quiet (fail)
          go_wp2
          go_roundw
          case rel => exact ⟨k + 1, _, by omega, by go_num, rfl, take_step HT.out (by rw [L1.out]; omega) (by rw [L2.out]; omega) (by rw [← HX.out, ← HY.out]; exact HE.out)⟩
          case measure => simp [intOf]; omega
        · have hb : (x != y) = true := by simp [hxy]
          have HE := Lib.hid hxy
          clear hxy
          go_wp2_with fail
          go_quiet (fail)
          go_wp2
          go_ret
          exact ⟨ret_bool (sameB_no (fun h => HE.out (by rw [HX.out, HY.out, h]))).symm, _, World.drewN_drewN _ _ _⟩
      · go_wp2
        go_ret
        exact ⟨ret_bool (sameB_yes (by have := HT.out; rw [List.take_of_length_le (by rw [L1.out]; omega), List.take_of_length_le (by rw [L2.out, ← HN.out]; omega)] at this; exact this)).symm, _, rfl⟩
  · have hne : ((n1 : Int) != (n2 : Int)) = true := by simp; omega
    have hs : sameB z1 z2 = false := sameB_no (fun h => hn (by rw [← l1, ← l2, h]))
    have HS := Lib.hid hs
    clear l1 l2 hn hs
    go_enter Try.func12, Try.ntmps12
    go_wp2
    go_ret
    exact ⟨ret_bool HS.out.symm, 0, rfl⟩
end Go.Proofs.Ytgajpekolamjbaa
