/- shaped and front. -/
import Derived.Test.YtgajpekolamjbaaTrQ
import Derived.Test.YtgajpekolamjbaaTxC
import Derived.Test.YtgajpekolamjbaaTvH
set_option linter.unusedVariables false
set_option linter.unusedSimpArgs false
namespace Go.Tk
open Go Go.RowKit
theorem and1_i64 (y : Nat) (h1 : y < 9223372036854775808) : bits .and .i64 (y : Int) 1 = ((y % 2 : Nat) : Int) := by
  have key : (BitVec.ofInt 64 (y : Int) &&& BitVec.ofInt 64 1).toNat = y % 2 := by
    rw [BitVec.toNat_and, BitVec.toNat_ofInt, BitVec.toNat_ofInt]
    have e1 : ((y : Int) % ((2 ^ 64 : Nat) : Int)).toNat = y := by omega
    have e2 : ((1 : Int) % ((2 ^ 64 : Nat) : Int)).toNat = 1 := by omega
    rw [e1, e2, Nat.and_one_is_mod]
  show IntKind.i64.wrap ((BitVec.ofInt 64 (y : Int) &&& BitVec.ofInt 64 1).toNat : Nat) = _
  rw [key, IntKind.wrap_i64]
  omega
/-- A pattern behind so many levels of shaped. -/
def shK (q : Qd) (s k : Nat) : Qd := ⟨if 0 < k ∧ s.testBit 0 = false then -1 else q.a, if 1 < k ∧ s.testBit 1 = false then -2 else q.b, if 2 < k ∧ s.testBit 2 = false then -3 else q.c, if 3 < k ∧ s.testBit 3 = false then -4 else q.d⟩
def shQ (q : Qd) (s : Nat) : Qd := shK q s 4
theorem shK_zero (q : Qd) (s : Nat) : shK q s 0 = q := by simp [shK]
theorem shK_yes {q : Qd} {s k : Nat} (hk : k < 4) (h : s.testBit k = true) : shK q s (k + 1) = shK q s k := by
  rcases (by omega : k = 0 ∨ k = 1 ∨ k = 2 ∨ k = 3) with rfl | rfl | rfl | rfl <;> simp [shK, h]
theorem shK_no {q : Qd} {s k : Nat} (hk : k < 4) (h : s.testBit k = false) : (qcs (shK q s (k + 1))).toArray = (qcs (shK q s k)).toArray.setIfInBounds k (.int .i64 (-1 - (k : Int))) := by
  rcases (by omega : k = 0 ∨ k = 1 ∨ k = 2 ∨ k = 3) with rfl | rfl | rfl | rfl <;> simp [shK, h, qcs]
end Go.Tk
namespace Go.Proofs.Ytgajpekolamjbaa
open Go Go.RowKit Go.Tk
set_option maxRecDepth 100000 in
theorem shaped_calls (w : World) (q : Qd) (s : Nat) (hs : s < 16) :
    Calls Try.prog 27 #[.agg (qcs q).toArray, .int .i64 (s : Nat)] w fun e w' => e = .returned (.agg (qcs (shQ q s)).toArray) ∧ Below w.heap.size w w' := by
  have hB0 : Below w.heap.size w ((w.alloc (.cells (qcs q).toArray 24)).alloc (.cells #[.int .i64 0, .int .i64 0, .int .i64 0, .int .i64 0] 24)) := ((Below.refl _ _).alloc (Nat.le_refl _) _).alloc (by simp) _
  have hp0 : ((w.alloc (.cells (qcs q).toArray 24)).alloc (.cells #[.int .i64 0, .int .i64 0, .int .i64 0, .int .i64 0] 24)).heap[w.heap.size]? = some (.cells (qcs q).toArray 24 (0, 0)) := (heap_alloc_old _ _ (by simp)).trans (heap_alloc_new _ _)
  have hq0 : ((w.alloc (.cells (qcs q).toArray 24)).alloc (.cells #[.int .i64 0, .int .i64 0, .int .i64 0, .int .i64 0] 24)).heap[w.heap.size + 1]? = some (.cells #[.int .i64 0, .int .i64 0, .int .i64 0, .int .i64 0] 24 (0, 0)) := by
    have := heap_alloc_new (w.alloc (.cells (qcs q).toArray 24)) (.cells #[.int .i64 0, .int .i64 0, .int .i64 0, .int .i64 0] 24)
    simpa using this
  go_enter Try.func27, Try.ntmps27
  go_upto_region 1 with fail
  generalize (w.alloc (.cells (qcs q).toArray 24)).alloc (.cells #[.int .i64 0, .int .i64 0, .int .i64 0, .int .i64 0] 24) = w1 at hB0 hp0 hq0 ⊢
  have HB := Lib.hid hB0
  have HP := Lib.hid hp0
  have HQ := Lib.hid hq0
  have SZ := Lib.hid Try.sizeIds
  clear hB0 hp0 hq0
  go_wp2_with fail
  go_loopw [5] (fun iv wr => ∃ k : Nat, iv = .int .i64 (k : Nat) ∧ k ≤ 4 ∧ Below w.heap.size w wr ∧ wr.heap[w.heap.size]? = some (.cells (qcs (shK q s k)).toArray 24 (0, 0)) ∧ wr.heap[w.heap.size + 1]? = some (.cells #[.int .i64 0, .int .i64 0, .int .i64 0, .int .i64 0] 24 (0, 0))) (fun iv _ => 4 - (intOf iv).toNat)
  case atStart => exact ⟨0, rfl, Nat.zero_le _, HB.out, by rw [shK_zero]; exact HP.out, HQ.out⟩
  case round =>
    rename World => wr
    obtain ⟨k, rfl, hk, hb, hp, hq⟩ := hrel
    have HBR := Lib.hid hb
    have HPR := Lib.hid hp
    have HQR := Lib.hid hq
    clear hb hp hq HB HP HQ
    by_cases hk4 : k < 4
    · have hz := frozen_of_row wr w.heap.size k _ _ HPR.out
      have hc : wr.cell? ⟨w.heap.size, k, none⟩ = some (.int .i64 ((shK q s k).at k)) := by
        rw [cell_of_row wr _ k _ _ _ HPR.out]
        rcases (by omega : k = 0 ∨ k = 1 ∨ k = 2 ∨ k = 3) with rfl | rfl | rfl | rfl <;> rfl
      have hm := and1_i64 (s / 2 ^ k) (by have := Nat.div_le_self s (2 ^ k); omega)
      have he : ((s / 2 ^ k : Nat) : Int) = (s : Int) / 2 ^ k := by simp
      rw [he] at hm
      have hw := heap_setCell_same wr w.heap.size k _ _ (.int .i64 (-1 - (k : Int))) HPR.out
      have hw2 : (wr.setCell ⟨w.heap.size, k, none⟩ (.int .i64 (-1 - (k : Int)))).heap[w.heap.size + 1]? = some (.cells #[.int .i64 0, .int .i64 0, .int .i64 0, .int .i64 0] 24 (0, 0)) := (heap_setCell_other _ _ _ _ (by simp)).trans HQR.out
      have HW := Lib.hid hw
      have HW2 := Lib.hid hw2
      clear hw hw2 he
      cases hb : s.testBit k with
      | true =>
        have e2 : s / 2 ^ k % 2 = 1 := by rw [Nat.testBit_eq_decide_div_mod_eq] at hb; simpa using hb
        rw [e2] at hm
        have HSK := Lib.hid (shK_yes (q := q) hk4 hb)
        clear e2 hb
        go_wp2_with fail
        go_roundw
        case rel => exact ⟨k + 1, by go_num, by omega, HBR.out, by rw [HSK.out]; exact HPR.out, HQR.out⟩
        case measure => simp [intOf]; omega
      | false =>
        have e2 : s / 2 ^ k % 2 = 0 := by rw [Nat.testBit_eq_decide_div_mod_eq] at hb; simp at hb; omega
        rw [e2] at hm
        have HSK := Lib.hid (shK_no (q := q) hk4 hb)
        clear e2 hb
        go_wp2_with fail
        go_roundw
        case rel => exact ⟨k + 1, by go_num, by omega, HBR.out.setCell (p := ⟨w.heap.size, k, none⟩) (Nat.le_refl _) _, by rw [HSK.out]; exact HW.out, HW2.out⟩
        case measure => simp [intOf]; omega
    · obtain rfl : k = 4 := by omega
      have n1 := setRow_heap wr (w.heap.size + 1) _ (qcs (shQ q s)).toArray _ _ HQR.out
      have n2 := below_setRow HBR.out (show w.heap.size ≤ w.heap.size + 1 by omega) (qcs (shQ q s)).toArray
      have HN1 := Lib.hid n1
      have HN2 := Lib.hid n2
      clear n1 n2
      go_wp2_with (first
        | (refine wpList_load_row rfl 24 _ rfl w.heap.size rfl _ (qcs (shQ q s)).toArray _ _ HPR.out Try.underlying24 rfl SZ.out ?_)
        | (refine wpList_store_row rfl 24 _ _ rfl (w.heap.size + 1) (qcs (shQ q s)).toArray rfl rfl _ _ HQR.out SZ.out rfl (by simp [qcs, Value.oneCell']) ?_))
      try simp only [Exit.inBlock, Exit.then]
      exact bodyPost_ret (results_cell_row rfl _ _ (w.heap.size + 1) _ _ _ _ rfl HN1.out Try.underlying24 rfl SZ.out) rfl ⟨rfl, HN2.out⟩
/-- The first numbers below 0 stand behind all others? -/
def frK (p : Qd) (k : Nat) : Prop := ∀ j, 0 < j → j < k → ¬ (p.at (j - 1) < 0 ∧ 0 ≤ p.at j)
theorem fr_is {p : Qd} : frQ p = true ↔ frK p 4 := by
  rw [fr_iff]
  constructor
  · rintro ⟨h1, h2, h3⟩ j h0 h4
    rcases (by omega : j = 1 ∨ j = 2 ∨ j = 3) with rfl | rfl | rfl
    · show ¬ (p.a < 0 ∧ 0 ≤ p.b); omega
    · show ¬ (p.b < 0 ∧ 0 ≤ p.c); omega
    · show ¬ (p.c < 0 ∧ 0 ≤ p.d); omega
  · intro h
    have h1 : ¬ (p.a < 0 ∧ 0 ≤ p.b) := h 1 (by omega) (by omega)
    have h2 : ¬ (p.b < 0 ∧ 0 ≤ p.c) := h 2 (by omega) (by omega)
    have h3 : ¬ (p.c < 0 ∧ 0 ≤ p.d) := h 3 (by omega) (by omega)
    omega
set_option maxRecDepth 100000 in
theorem front_calls (w : World) (p : Qd) :
    Calls Try.prog 32 #[.agg (qcs p).toArray] w fun e w' => e = .returned (.bool (frQ p)) ∧ Below w.heap.size w w' := by
  have hB0 : Below w.heap.size w (w.alloc (.cells (qcs p).toArray 24)) := (Below.refl _ _).alloc (Nat.le_refl _) _
  have hq0 := heap_alloc_new w (.cells (qcs p).toArray 24)
  obtain ⟨R, hR⟩ : ∃ R, R = frQ p := ⟨_, rfl⟩
  rw [← hR]
  have HR := Lib.hid hR
  clear hR
  go_enter Try.func32, Try.ntmps32
  go_upto_region 1 with fail
  generalize w.alloc (.cells (qcs p).toArray 24) = w1 at hB0 hq0 ⊢
  have HB := Lib.hid hB0
  have HQ := Lib.hid hq0
  clear hB0 hq0
  go_wp2_with fail
  go_loopw [3] (fun iv wr => ∃ k : Nat, iv = .int .i64 (k : Nat) ∧ 1 ≤ k ∧ k ≤ 4 ∧ frK p k ∧ wr = w1) (fun iv _ => 4 - (intOf iv).toNat)
  case atStart => exact ⟨1, rfl, Nat.le_refl _, by omega, fun j h1 h2 => by omega, rfl⟩
  case round =>
    obtain ⟨k, rfl, h1, hk, hf, rfl⟩ := hrel
    have HF := Lib.hid hf
    clear hf
    by_cases hk4 : k < 4
    · obtain ⟨j, rfl⟩ : ∃ j, k = j + 1 := ⟨k - 1, by omega⟩
      have c0 := qcs_cell HQ.out j (by omega)
      have c1 := qcs_cell HQ.out (j + 1) (by omega)
      obtain ⟨x, hx⟩ : ∃ x, x = p.at j := ⟨_, rfl⟩
      obtain ⟨y, hy⟩ : ∃ y, y = p.at (j + 1) := ⟨_, rfl⟩
      rw [← hx] at c0
      rw [← hy] at c1
      have HX := Lib.hid hx
      have HY := Lib.hid hy
      have hj4 : j < 4 := by omega
      clear hx hy
      by_cases hx0 : x < 0
      · have d1 : decide (x < 0) = true := decide_eq_true hx0
        by_cases hy0 : 0 ≤ y
        · have d2 : decide (0 ≤ y) = true := decide_eq_true hy0
          have hr : R = false := by
            rw [HR.out]
            cases hf : frQ p with
            | false => rfl
            | true =>
              exfalso
              have := fr_is.1 hf (j + 1) (by omega) (by omega)
              rw [Nat.add_sub_cancel, ← HX.out, ← HY.out] at this
              exact this ⟨hx0, hy0⟩
          subst hr
          go_wp2_with fail
          go_ret
          exact ⟨rfl, HB.out⟩
        · have d2 : decide (0 ≤ y) = false := decide_eq_false hy0
          go_wp2_with fail
          refine ⟨⟨j + 1 + 1, by go_num, by omega, by omega, fun i i1 i2 => ?_, by first | rfl | trivial⟩, by simp [intOf]; omega⟩
          by_cases e : i = j + 1
          · subst e; rw [Nat.add_sub_cancel, ← HX.out, ← HY.out]; exact fun h => hy0 h.2
          · exact HF.out i i1 (by omega)
      · have d1 : decide (x < 0) = false := decide_eq_false hx0
        go_wp2_with fail
        refine ⟨⟨j + 1 + 1, by go_num, by omega, by omega, fun i i1 i2 => ?_, by first | rfl | trivial⟩, by simp [intOf]; omega⟩
        by_cases e : i = j + 1
        · subst e; rw [Nat.add_sub_cancel, ← HX.out, ← HY.out]; exact fun h => hx0 h.1
        · exact HF.out i i1 (by omega)
    · obtain rfl : k = 4 := by omega
      have hr : R = true := by rw [HR.out]; exact fr_is.2 HF.out
      subst hr
      go_wp2_with fail
      go_ret
      exact ⟨rfl, HB.out⟩
end Go.Proofs.Ytgajpekolamjbaa
