/- The document's bit, number, padded. -/
import Derived.Test.YtgajpekolamjbaaRkB
set_option linter.unusedVariables false
set_option linter.unusedSimpArgs false
namespace Go.Tk
open Go Go.RowKit
theorem bit_and : ∀ y : Fin 256, ∀ j : Fin 8, (bits .and .u8 ((y.val : Int) / 2 ^ j.val) 1 == 1) = y.val.testBit j.val := by decide +kernel
theorem bit_mod : ∀ y : Fin 256, ∀ j : Fin 8, (((y.val : Int) / 2 ^ j.val) % 2 == 1) = y.val.testBit j.val := by decide +kernel
end Go.Tk
namespace Go.Proofs.Ytgajpekolamjbaa
open Go.RowKit Go.Tk
theorem bit_calls (w : World) (a : Option Addr) (n c : Nat) (d : List UInt8) (i : Nat) (h : SlI .u8 w a n c (nums d)) (hi : i / 8 < d.length) (hb : i ≤ 9000000000000000000) :
    Calls Try.prog 91 #[.slice a n c, .int .i64 (i : Nat)] w fun e w' => e = .returned (.bool (btB d i)) ∧ w = w' := by
  have hnl := h.len
  rw [nums_len] at hnl
  obtain ⟨b, o, rfl, hc⟩ := h.cell (i / 8) (by omega)
  rw [nums_getD d _ hi] at hc
  obtain ⟨y, hy⟩ : ∃ y : Nat, y = (d[i / 8]).toNat := ⟨_, rfl⟩
  rw [← hy] at hc
  have hy2 : y ≤ 255 := by have := UInt8.toNat_lt (d[i / 8]); omega
  have e1 := bit_and ⟨y, by omega⟩ ⟨i % 8, by omega⟩
  have e2 := bit_mod ⟨y, by omega⟩ ⟨i % 8, by omega⟩
  simp only at e1 e2
  have hres : btB d i = y.testBit (i % 8) := by
    unfold btB
    rw [hy, List.getD_eq_getElem?_getD, List.getElem?_eq_getElem hi]; rfl
  rw [hres]
  generalize y.testBit (i % 8) = r at e1 e2
  clear hres hy h
  go_enter Try.func91, Try.ntmps91
  go_wp2
  go_ret
  exact ⟨rfl, rfl⟩
set_option maxHeartbeats 1000000 in
theorem number_calls (w : World) (v k : Nat) (hv : v ≤ 1000000000000) (hk : k ≤ 8) :
    Calls Try.prog 90 #[.int .i64 (v : Nat), .int .i64 (k : Nat)] w fun e w' => ∃ x, e = .returned x ∧ Ow .u8 5 w.heap.size w' x (nums (leB v k)) ∧ Below w.heap.size w w' := by
  go_enter Try.func90, Try.ntmps90
  go_wp2
  go_loopw [5, 6] (fun ov iv wr => ∃ i : Nat, iv = .int .i64 (i : Nat) ∧ i ≤ k ∧ Ow .u8 5 w.heap.size wr ov (nums (leB v i)) ∧ Below w.heap.size w wr) (fun _ iv _ => k - (intOf iv).toNat)
  case atStart => exact ⟨0, rfl, Nat.zero_le _, Ow.nil _ _ _ _, Below.refl _ _⟩
  case round =>
    obtain ⟨i, rfl, hi, how, hb⟩ := hrel
    have HOW := Lib.hid how
    have HB := Lib.hid hb
    have hln : (nums (leB v i)).length = i := by rw [nums_len, le_len]
    have HLN := Lib.hid hln
    clear how hb hln
    by_cases hik : i < k
    · have hnx : nums (leB v i) ++ [((v / 256 ^ i % 256 : Nat) : Int)] = nums (leB v (i + 1)) := by
        have : leB v (i + 1) = leB v i ++ [UInt8.ofNat (v / 256 ^ i % 256)] := by
          apply List.ext_getElem?
          intro j
          by_cases hj : j < i
          · rw [List.getElem?_append_left (by rw [le_len]; exact hj), le_get _ _ _ (by omega), le_get _ _ _ hj]
          · by_cases hj2 : j = i
            · subst hj2
              rw [List.getElem?_append_right (by rw [le_len]; exact Nat.le_refl _), le_len, Nat.sub_self, le_get _ _ _ (by omega)]; rfl
            · rw [List.getElem?_eq_none (by rw [le_len]; omega), List.getElem?_eq_none (by simp [le_len]; omega)]
        rw [this, nums_append]
        simp [nums]
      have HNX := Lib.hid hnx
      clear hnx
      have hv2 := le_val v i
      go_wp2_with (at_builtin; go_loud (refine wpList_appJ rfl (.tmp 12) (.tmp 18) _ rfl .u8 w.heap.size 5 _ 1 Try.underlying25 Try.infoU8 rfl _ _ rfl (HOW.out.alloc _) _ 1 1 _ rfl (SlI.one _ _ _ _) (by simp) (by have := HLN.out; omega) (by have := HLN.out; omega) (by have := HB.out.size; simp; omega) ?_; intro v' w' ow' hg' st'; (have HO2 := Lib.hid ow'); (have HB2 := Lib.hid ((HB.out.alloc HB.out.size _).grown hg' (by have := HB.out.size; simp; omega) (fun j hj => (HOW.out.lt j hj).1))); clear ow' hg' st'))
      go_roundw
      case rel => exact ⟨i + 1, by go_num, by omega, by rw [← HNX.out]; exact HO2.out, HB2.out⟩
      case measure => simp [intOf]; omega
    · obtain rfl : i = k := by omega
      go_wp2
      go_ret
      exact ⟨_, rfl, HOW.out, HB.out⟩
end Go.Proofs.Ytgajpekolamjbaa
