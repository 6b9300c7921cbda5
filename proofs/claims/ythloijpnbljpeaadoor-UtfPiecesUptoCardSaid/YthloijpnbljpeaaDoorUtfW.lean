/- written: a scalar as it is written: the program's, the document's. -/
import Derived.Test.YthloijpnbljpeaaDoorUtfDg
import Derived.Test.YthloijpnbljpeaaDoorUtfUB
import Derived.Test.YthloijpnbljpeaaDoorShelf
import Derived.Outline
set_option linter.unusedVariables false
set_option linter.unusedSimpArgs false
namespace Go.Tk
open Go Go.RowKit
/-- What stands behind the backslash of an escape of one letter, where a scalar has one. -/
def escQ (r : Int) : Option UInt8 := if r = 8 then some 98 else if r = 9 then some 116 else if r = 10 then some 110 else if r = 12 then some 102 else if r = 13 then some 114 else if r = 34 then some 34 else if r = 92 then some 92 else none
/-- Between < and >: must it be escaped? -/
def badA (r : Int) : Bool := decide (r ≤ 32) || decide (r = 60) || decide (r = 62) || decide (r = 34) || decide (r = 123) || decide (r = 125) || decide (r = 124) || decide (r = 94) || decide (r = 96) || decide (r = 92)
/-- A scalar as it is written. -/
def wrB (r way : Int) : List UInt8 :=
  if way = 1 then (match escQ r with | some c => [92, c] | none => if r < 32 ∨ r = 127 then [92, 117] ++ digB r else encB r)
  else if badA r then [92, 117] ++ digB r else encB r
theorem encB_len {r : Int} : (encB r).length ≤ 4 ∧ 1 ≤ (encB r).length := by
  have := encZ_len r
  simp only [encB, bytesOf, List.length_map]
  omega
theorem wrB_len (r way : Int) : (wrB r way).length ≤ 6 := by
  have := (encB_len (r := r)).1
  have hd : ([92, 117] ++ digB r : List UInt8).length = 6 := rfl
  unfold wrB
  split
  · split
    · simp
    · split <;> omega
  · split <;> omega
theorem cat_two (l : List UInt8) : (⟨#[92, 117]⟩ : ByteArray) ++ (⟨l.toArray⟩ : ByteArray) = ⟨([92, 117] ++ l).toArray⟩ := by
  apply ByteArray.ext
  simp
/-- The texts of the program's table of escapes. -/
theorem idx_angled : ∀ r : Fin 128, 32 < r.val → (decide ((0 : Int) ≤ Lib.indexByte [60, 62, 34, 123, 125, 124, 94, 96, 92] ((r.val : Int).toNat.toUInt8)) = badA (r.val : Int)) := by decide +kernel
theorem idx_quoted : ∀ r : Fin 128, r.val ≠ 39 → (Lib.indexByte [9, 8, 10, 13, 12, 34, 39, 92] ((r.val : Int).toNat.toUInt8) < 0 ∧ escQ (r.val : Int) = none) ∨
    (0 ≤ Lib.indexByte [9, 8, 10, 13, 12, 34, 39, 92] ((r.val : Int).toNat.toUInt8) ∧ Lib.indexByte [9, 8, 10, 13, 12, 34, 39, 92] ((r.val : Int).toNat.toUInt8) < 8 ∧
      ∃ c, escQ (r.val : Int) = some c ∧ (⟨#[92]⟩ : ByteArray) ++ (⟨#[116, 98, 110, 114, 102, 34, 39, 92]⟩ : ByteArray).extract (Lib.indexByte [9, 8, 10, 13, 12, 34, 39, 92] ((r.val : Int).toNat.toUInt8)).toNat (Lib.indexByte [9, 8, 10, 13, 12, 34, 39, 92] ((r.val : Int).toNat.toUInt8) + 1).toNat = ⟨[92, c].toArray⟩) := by
  intro r h
  cases he : escQ (r.val : Int) with
  | none => left; revert he h; revert r; decide +kernel
  | some c =>
    right
    have : ∀ r : Fin 128, r.val ≠ 39 → escQ (r.val : Int) ≠ none → (0 ≤ Lib.indexByte [9, 8, 10, 13, 12, 34, 39, 92] ((r.val : Int).toNat.toUInt8) ∧ Lib.indexByte [9, 8, 10, 13, 12, 34, 39, 92] ((r.val : Int).toNat.toUInt8) < 8 ∧
      (⟨#[92]⟩ : ByteArray) ++ (⟨#[116, 98, 110, 114, 102, 34, 39, 92]⟩ : ByteArray).extract (Lib.indexByte [9, 8, 10, 13, 12, 34, 39, 92] ((r.val : Int).toNat.toUInt8)).toNat (Lib.indexByte [9, 8, 10, 13, 12, 34, 39, 92] ((r.val : Int).toNat.toUInt8) + 1).toNat = ⟨[92, (escQ (r.val : Int)).getD 0].toArray⟩) := by decide +kernel
    obtain ⟨h1, h2, h3⟩ := this r h (by rw [he]; simp)
    rw [he] at h3
    exact ⟨h1, h2, c, rfl, h3⟩
end Go.Tk
namespace Go.Proofs.YthloijpnbljpeaaDoor
open Go.RowKit Go.Tk
/-- A fresh row of a scalar's bytes, as a string. -/
theorem conv_enc {r : Int} {w w' : World} {g : Nat} (h : scalarB r = true) (hf : Fresh .u8 5 w w' g (encZ r)) :
    (convert 28 9 (.slice (some ⟨g, 0, none⟩) (encZ r).length (encZ r).length)).run Tryd.prog w' = .ok (.string ⟨(encB r).toArray⟩) w' := by
  have e := nums_encB' h
  have el : (encZ r).length = (encB r).length := by rw [← e, nums_len]
  have hs : SlI .u8 w' (some ⟨g, 0, none⟩) (encB r).length (encB r).length (nums (encB r)) := ⟨by rw [nums_len], Nat.le_refl _, by have := (encB_len (r := r)).1; omega, fun i hi => ⟨g, 0, rfl, by rw [e, Nat.zero_add]; exact hf.row.cell i (by omega)⟩⟩
  rw [el]
  exact SlI.bytes Tryd.underlying28 Tryd.underlying5 Tryd.underlying9 hs
set_option maxRecDepth 100000 in
set_option maxHeartbeats 4000000 in
theorem uwritten_calls (r way : Int) (w : World) (hr : scalarB r = true) :
    Calls Tryd.prog 29 #[.int .i32 r, .int .i64 way] w fun e w' => e = .returned (.string ⟨(wrB r way).toArray⟩) ∧ Below w.heap.size w w' := by
  have hsc := (scalarB_iff r).1 hr
  have h0 := hsc.1
  have h1 := hsc.2.1
  have HR := Lib.hid hr
  clear hr hsc
  have hub := fun w => ubytes_calls r w h0 h1
  have hud := fun w => udigits_calls r w h0
  have hnn := fun w => Tryd.strings_IndexByte ⟨#[60, 62, 34, 123, 125, 124, 94, 96, 92]⟩ r w
  have hmm := fun w => Tryd.strings_IndexByte ⟨#[9, 8, 10, 13, 12, 34, 39, 92]⟩ r w
  obtain ⟨xn, hxn⟩ : ∃ x, x = Lib.indexByte [60, 62, 34, 123, 125, 124, 94, 96, 92] r.toNat.toUInt8 := ⟨_, rfl⟩
  obtain ⟨xm, hxm⟩ : ∃ x, x = Lib.indexByte [9, 8, 10, 13, 12, 34, 39, 92] r.toNat.toUInt8 := ⟨_, rfl⟩
  have en : 32 < r → r < 128 → decide ((0 : Int) ≤ xn) = badA r := fun h2 h3 => by
    have := idx_angled ⟨r.toNat, by omega⟩ (by simp; omega)
    simp only [Int.toNat_of_nonneg h0] at this
    rw [hxn]; exact this
  have em : r < 128 → r ≠ 39 → (xm < 0 ∧ escQ r = none) ∨ (0 ≤ xm ∧ xm < 8 ∧ ∃ c, escQ r = some c ∧ (⟨#[92]⟩ : ByteArray) ++ (⟨#[116, 98, 110, 114, 102, 34, 39, 92]⟩ : ByteArray).extract xm.toNat (xm + 1).toNat = ⟨[92, c].toArray⟩) := fun h2 h3 => by
    have := idx_quoted ⟨r.toNat, by omega⟩ (by simp; omega)
    simp only [Int.toNat_of_nonneg h0] at this
    rw [hxm]; exact this
  have hnn' : ∀ w, Calls Tryd.prog 46 #[.string ⟨#[60, 62, 34, 123, 125, 124, 94, 96, 92]⟩, .int .u8 r] w fun e w' => e = .returned (.int .i64 xn) ∧ w' = w := fun w => by rw [hxn]; exact hnn w
  have hmm' : ∀ w, Calls Tryd.prog 46 #[.string ⟨#[9, 8, 10, 13, 12, 34, 39, 92]⟩, .int .u8 r] w fun e w' => e = .returned (.int .i64 xm) ∧ w' = w := fun w => by rw [hxm]; exact hmm w
  clear hnn hmm hxn hxm
  have EN := Lib.hid en
  have EM := Lib.hid em
  have HNN := Lib.hid hnn'
  have HMM := Lib.hid hmm'
  have HUB := Lib.hid hub
  have HUD := Lib.hid hud
  clear en em hnn' hmm' hub hud
  by_cases hw : way = 1
  · subst hw
    by_cases c1 : r < 128
    · by_cases c2 : r = 39
      · subst c2
        have hb : wrB 39 1 = encB 39 := by decide +kernel
        have HB := Lib.hid hb
        clear hb
        go_enter Tryd.func29, Tryd.ntmps29
        go_wp2_with (go_at_call 35; refine (HUB.out _).mono ?_; rintro e w1 ⟨rfl, hf⟩; (have hcv := conv_enc HR.out hf); (have HF := Lib.hid hf); clear hf)
        go_ret
        exact ⟨by rw [HB.out]; rfl, HF.out.below⟩
      · rcases EM.out c1 c2 with ⟨m1, m2⟩ | ⟨m1, m2, c, m3, m4⟩
        · by_cases c3 : r < 32 ∨ r = 127
          · have hb : wrB r 1 = [92, 117] ++ digB r := by unfold wrB; rw [if_pos rfl, m2]; simp only; rw [if_pos c3]
            have HB := Lib.hid hb
            have M2 := Lib.hid m2
            clear hb m2
            have e3 : (decide (r < 32) || decide (r = 127)) = true := by simpa using c3
            by_cases c4 : r < 32
            · go_enter Tryd.func29, Tryd.ntmps29
              go_wp2_with (first | (go_at_call 46; refine (HMM.out _).mono ?_; rintro e w' ⟨rfl, rfl⟩) | (go_at_call 47; refine (HUD.out _ (by omega)).mono ?_; rintro e w1 ⟨rfl, hb1⟩))
              go_ret
              exact ⟨by rw [HB.out, ← cat_two]; rfl, hb1⟩
            · obtain rfl : r = 127 := by omega
              go_enter Tryd.func29, Tryd.ntmps29
              go_wp2_with (first | (go_at_call 46; refine (HMM.out _).mono ?_; rintro e w' ⟨rfl, rfl⟩) | (go_at_call 47; refine (HUD.out _ (by omega)).mono ?_; rintro e w1 ⟨rfl, hb1⟩))
              go_ret
              exact ⟨by rw [HB.out, ← cat_two]; rfl, hb1⟩
          · have hb : wrB r 1 = encB r := by unfold wrB; rw [if_pos rfl, m2]; simp only; rw [if_neg c3]
            have HB := Lib.hid hb
            have M2 := Lib.hid m2
            clear hb m2
            have c4 : ¬ r < 32 := fun h => c3 (.inl h)
            have c5 : ¬ r = 127 := fun h => c3 (.inr h)
            have e5 : (r == 127) = false := beq_eq_false_iff_ne.2 c5
            clear c3 c5
            go_enter Tryd.func29, Tryd.ntmps29
            go_wp2_with (first | (go_at_call 46; refine (HMM.out _).mono ?_; rintro e w' ⟨rfl, rfl⟩) | (go_at_call 35; refine (HUB.out _).mono ?_; rintro e w1 ⟨rfl, hf⟩; (have hcv := conv_enc HR.out hf); (have HF := Lib.hid hf); clear hf))
            go_ret
            exact ⟨by rw [HB.out]; rfl, HF.out.below⟩
        · have hb : wrB r 1 = [92, c] := by unfold wrB; rw [if_pos rfl, m3]
          have HB := Lib.hid hb
          have M3 := Lib.hid m3
          have M4 := Lib.hid m4
          clear hb m3 m4
          go_enter Tryd.func29, Tryd.ntmps29
          go_wp2_with (go_at_call 46; refine (HMM.out _).mono ?_; rintro e w' ⟨rfl, rfl⟩)
          go_ret
          exact ⟨by rw [HB.out, ← M4.out]; rfl, Below.refl _ _⟩
    · have hq : escQ r = none := by unfold escQ; repeat (rw [if_neg (by omega)])
      have hb : wrB r 1 = encB r := by unfold wrB; rw [if_pos rfl, hq]; simp only; rw [if_neg (by omega)]
      have HB := Lib.hid hb
      clear hb hq
      have c4 : ¬ r < 32 := by omega
      have c5 : ¬ r = 127 := by omega
      go_enter Tryd.func29, Tryd.ntmps29
      go_wp2_with (go_at_call 35; refine (HUB.out _).mono ?_; rintro e w1 ⟨rfl, hf⟩; (have hcv := conv_enc HR.out hf); (have HF := Lib.hid hf); clear hf)
      go_ret
      exact ⟨by rw [HB.out]; rfl, HF.out.below⟩
  · by_cases c1 : r ≤ 32
    · have hb : wrB r way = [92, 117] ++ digB r := by
        have : badA r = true := by simp [badA, c1]
        unfold wrB; rw [if_neg hw, if_pos this]
      have HB := Lib.hid hb
      clear hb
      go_enter Tryd.func29, Tryd.ntmps29
      go_wp2_with (go_at_call 47; refine (HUD.out _ (by omega)).mono ?_; rintro e w1 ⟨rfl, hb1⟩)
      go_ret
      exact ⟨by rw [HB.out, ← cat_two]; rfl, hb1⟩
    · by_cases c2 : r < 128
      · have e1 := EN.out (by omega) c2
        cases hbd : badA r with
        | true =>
          rw [hbd] at e1
          have e2 : 0 ≤ xn := of_decide_eq_true e1
          have hb : wrB r way = [92, 117] ++ digB r := by unfold wrB; rw [if_neg hw, if_pos hbd]
          have HB := Lib.hid hb
          clear hb hbd e1
          go_enter Tryd.func29, Tryd.ntmps29
          go_wp2_with (first | (go_at_call 46; refine (HNN.out _).mono ?_; rintro e w' ⟨rfl, rfl⟩) | (go_at_call 47; refine (HUD.out _ (by omega)).mono ?_; rintro e w1 ⟨rfl, hb1⟩))
          go_ret
          exact ⟨by rw [HB.out, ← cat_two]; rfl, hb1⟩
        | false =>
          rw [hbd] at e1
          have e2 : ¬ 0 ≤ xn := of_decide_eq_false e1
          have hb : wrB r way = encB r := by unfold wrB; rw [if_neg hw, if_neg (by rw [hbd]; decide)]
          have HB := Lib.hid hb
          clear hb hbd e1
          go_enter Tryd.func29, Tryd.ntmps29
          go_wp2_with (first | (go_at_call 46; refine (HNN.out _).mono ?_; rintro e w' ⟨rfl, rfl⟩) | (go_at_call 35; refine (HUB.out _).mono ?_; rintro e w1 ⟨rfl, hf⟩; (have hcv := conv_enc HR.out hf); (have HF := Lib.hid hf); clear hf))
          go_ret
          exact ⟨by rw [HB.out]; rfl, HF.out.below⟩
      · have hbd : badA r = false := by
          simp [badA]
          omega
        have hb : wrB r way = encB r := by unfold wrB; rw [if_neg hw, if_neg (by rw [hbd]; decide)]
        have HB := Lib.hid hb
        clear hb hbd
        go_enter Tryd.func29, Tryd.ntmps29
        go_wp2_with (go_at_call 35; refine (HUB.out _).mono ?_; rintro e w1 ⟨rfl, hf⟩; (have hcv := conv_enc HR.out hf); (have HF := Lib.hid hf); clear hf)
        go_ret
        exact ⟨by rw [HB.out]; rfl, HF.out.below⟩
set_option maxRecDepth 100000 in
set_option maxHeartbeats 4000000 in
theorem rwritten_calls (r way : Int) (w : World) (hr : scalarB r = true) :
    Calls Tryd.prog 32 #[.int .i64 r, .int .i64 way] w fun e w' => e = .returned (.string ⟨(wrB r way).toArray⟩) ∧ Below w.heap.size w w' := by
  have hsc := (scalarB_iff r).1 hr
  have h0 := hsc.1
  have h1 := hsc.2.1
  have HR := Lib.hid hr
  clear hr hsc
  have HUB := Lib.hid (fun w => rbytes_calls r w h0 h1)
  have HUD := Lib.hid (fun w => rdigits_calls r w h0)
  have k0 : wrap64 ((((⟨#[8, 9, 10, 12, 13, 34, 92]⟩ : ByteArray)[0]'(by decide)).toNat : Nat) : Int) = 8 := by decide +kernel
  have k1 : wrap64 ((((⟨#[8, 9, 10, 12, 13, 34, 92]⟩ : ByteArray)[1]'(by decide)).toNat : Nat) : Int) = 9 := by decide +kernel
  have k2 : wrap64 ((((⟨#[8, 9, 10, 12, 13, 34, 92]⟩ : ByteArray)[2]'(by decide)).toNat : Nat) : Int) = 10 := by decide +kernel
  have k3 : wrap64 ((((⟨#[8, 9, 10, 12, 13, 34, 92]⟩ : ByteArray)[3]'(by decide)).toNat : Nat) : Int) = 12 := by decide +kernel
  have k4 : wrap64 ((((⟨#[8, 9, 10, 12, 13, 34, 92]⟩ : ByteArray)[4]'(by decide)).toNat : Nat) : Int) = 13 := by decide +kernel
  have k5 : wrap64 ((((⟨#[8, 9, 10, 12, 13, 34, 92]⟩ : ByteArray)[5]'(by decide)).toNat : Nat) : Int) = 34 := by decide +kernel
  have k6 : wrap64 ((((⟨#[8, 9, 10, 12, 13, 34, 92]⟩ : ByteArray)[6]'(by decide)).toNat : Nat) : Int) = 92 := by decide +kernel
  by_cases hw : way = 1
  · subst hw
    by_cases c0 : r = 8 ∨ r = 9 ∨ r = 10 ∨ r = 12 ∨ r = 13 ∨ r = 34 ∨ r = 92
    · rcases c0 with rfl | rfl | rfl | rfl | rfl | rfl | rfl
      all_goals (
        go_enter Tryd.func32, Tryd.ntmps32
        go_wp2
        refine wp_loop_rounds 8 ?_
        repeat (rw [rounds_succ]; go_wp2)
        go_ret
        exact ⟨by rfl, Below.refl _ _⟩)
    · have a1 : (8 == r) = false := beq_eq_false_iff_ne.2 (by omega)
      have a2 : (9 == r) = false := beq_eq_false_iff_ne.2 (by omega)
      have a3 : (10 == r) = false := beq_eq_false_iff_ne.2 (by omega)
      have a4 : (12 == r) = false := beq_eq_false_iff_ne.2 (by omega)
      have a5 : (13 == r) = false := beq_eq_false_iff_ne.2 (by omega)
      have a6 : (34 == r) = false := beq_eq_false_iff_ne.2 (by omega)
      have a7 : (92 == r) = false := beq_eq_false_iff_ne.2 (by omega)
      have hq : escQ r = none := by unfold escQ; repeat (rw [if_neg (by omega)])
      by_cases c3 : r < 32 ∨ r = 127
      · have hb : wrB r 1 = [92, 117] ++ digB r := by unfold wrB; rw [if_pos rfl, hq]; simp only; rw [if_pos c3]
        have HB := Lib.hid hb
        have C3 := Lib.hid c3
        by_cases c4 : r < 32
        · clear hb hq c0 c3
          go_enter Tryd.func32, Tryd.ntmps32
          go_wp2
          refine wp_loop_rounds 8 ?_
          repeat (rw [rounds_succ]; go_wp2_with (go_at_call 48; refine (HUD.out _ (by omega)).mono ?_; rintro e w1 ⟨rfl, rfl⟩))
          go_ret
          exact ⟨by rw [HB.out, ← cat_two]; rfl, Below.refl _ _⟩
        · obtain rfl : r = 127 := by omega
          clear hb hq c0 c3
          go_enter Tryd.func32, Tryd.ntmps32
          go_wp2
          refine wp_loop_rounds 8 ?_
          repeat (rw [rounds_succ]; go_wp2_with (go_at_call 48; refine (HUD.out _ (by omega)).mono ?_; rintro e w1 ⟨rfl, rfl⟩))
          go_ret
          exact ⟨by rw [HB.out, ← cat_two]; rfl, Below.refl _ _⟩
      · have hb : wrB r 1 = encB r := by unfold wrB; rw [if_pos rfl, hq]; simp only; rw [if_neg c3]
        have HB := Lib.hid hb
        have c4 : ¬ r < 32 := fun h => c3 (.inl h)
        have e5 : (r == 127) = false := beq_eq_false_iff_ne.2 (fun h => c3 (.inr h))
        clear hb hq c0 c3
        go_enter Tryd.func32, Tryd.ntmps32
        go_wp2
        refine wp_loop_rounds 8 ?_
        repeat (rw [rounds_succ]; go_wp2_with (go_at_call 38; refine (HUB.out _).mono ?_; rintro e w1 ⟨rfl, hf⟩; (have hcv := conv_enc HR.out hf); (have HF := Lib.hid hf); clear hf))
        go_ret
        exact ⟨by rw [HB.out]; rfl, HF.out.below⟩
  · clear k0 k1 k2 k3 k4 k5 k6
    have n0 : wrap64 ((((⟨#[60, 62, 34, 123, 125, 124, 94, 96, 92]⟩ : ByteArray)[0]'(by decide)).toNat : Nat) : Int) = 60 := by decide +kernel
    have n1 : wrap64 ((((⟨#[60, 62, 34, 123, 125, 124, 94, 96, 92]⟩ : ByteArray)[1]'(by decide)).toNat : Nat) : Int) = 62 := by decide +kernel
    have n2 : wrap64 ((((⟨#[60, 62, 34, 123, 125, 124, 94, 96, 92]⟩ : ByteArray)[2]'(by decide)).toNat : Nat) : Int) = 34 := by decide +kernel
    have n3 : wrap64 ((((⟨#[60, 62, 34, 123, 125, 124, 94, 96, 92]⟩ : ByteArray)[3]'(by decide)).toNat : Nat) : Int) = 123 := by decide +kernel
    have n4 : wrap64 ((((⟨#[60, 62, 34, 123, 125, 124, 94, 96, 92]⟩ : ByteArray)[4]'(by decide)).toNat : Nat) : Int) = 125 := by decide +kernel
    have n5 : wrap64 ((((⟨#[60, 62, 34, 123, 125, 124, 94, 96, 92]⟩ : ByteArray)[5]'(by decide)).toNat : Nat) : Int) = 124 := by decide +kernel
    have n6 : wrap64 ((((⟨#[60, 62, 34, 123, 125, 124, 94, 96, 92]⟩ : ByteArray)[6]'(by decide)).toNat : Nat) : Int) = 94 := by decide +kernel
    have n7 : wrap64 ((((⟨#[60, 62, 34, 123, 125, 124, 94, 96, 92]⟩ : ByteArray)[7]'(by decide)).toNat : Nat) : Int) = 96 := by decide +kernel
    have n8 : wrap64 ((((⟨#[60, 62, 34, 123, 125, 124, 94, 96, 92]⟩ : ByteArray)[8]'(by decide)).toNat : Nat) : Int) = 92 := by decide +kernel
    by_cases c1 : r ≤ 32
    · have hb : wrB r way = [92, 117] ++ digB r := by
        have : badA r = true := by simp [badA, c1]
        unfold wrB; rw [if_neg hw, if_pos this]
      have HB := Lib.hid hb
      clear hb
      go_enter Tryd.func32, Tryd.ntmps32
      go_wp2
      refine wp_loop_rounds 10 ?_
      repeat (rw [rounds_succ]; go_wp2_with (go_at_call 48; refine (HUD.out _ (by omega)).mono ?_; rintro e w1 ⟨rfl, rfl⟩))
      go_ret
      exact ⟨by rw [HB.out, ← cat_two]; rfl, Below.refl _ _⟩
    by_cases c2 : r = 60 ∨ r = 62 ∨ r = 34 ∨ r = 123 ∨ r = 125 ∨ r = 124 ∨ r = 94 ∨ r = 96 ∨ r = 92
    · have hb : wrB r way = [92, 117] ++ digB r := by
        have : badA r = true := by rcases c2 with rfl | rfl | rfl | rfl | rfl | rfl | rfl | rfl | rfl <;> decide
        unfold wrB; rw [if_neg hw, if_pos this]
      have HB := Lib.hid hb
      clear hb
      rcases c2 with rfl | rfl | rfl | rfl | rfl | rfl | rfl | rfl | rfl
      all_goals (
        go_enter Tryd.func32, Tryd.ntmps32
        go_wp2
        refine wp_loop_rounds 10 ?_
        repeat (rw [rounds_succ]; go_wp2_with (go_at_call 48; refine (HUD.out _ (by omega)).mono ?_; rintro e w1 ⟨rfl, rfl⟩))
        go_ret
        exact ⟨by rw [HB.out, ← cat_two]; rfl, Below.refl _ _⟩)
    · have hbd : badA r = false := by
        simp [badA]
        omega
      have hb : wrB r way = encB r := by unfold wrB; rw [if_neg hw, if_neg (by rw [hbd]; decide)]
      have HB := Lib.hid hb
      clear hb hbd
      have a0 : (60 == r) = false := beq_eq_false_iff_ne.2 (by omega)
      have a1 : (62 == r) = false := beq_eq_false_iff_ne.2 (by omega)
      have a2 : (34 == r) = false := beq_eq_false_iff_ne.2 (by omega)
      have a3 : (123 == r) = false := beq_eq_false_iff_ne.2 (by omega)
      have a4 : (125 == r) = false := beq_eq_false_iff_ne.2 (by omega)
      have a5 : (124 == r) = false := beq_eq_false_iff_ne.2 (by omega)
      have a6 : (94 == r) = false := beq_eq_false_iff_ne.2 (by omega)
      have a7 : (96 == r) = false := beq_eq_false_iff_ne.2 (by omega)
      have a8 : (92 == r) = false := beq_eq_false_iff_ne.2 (by omega)
      clear c2
      go_enter Tryd.func32, Tryd.ntmps32
      go_wp2
      refine wp_loop_rounds 10 ?_
      repeat (rw [rounds_succ]; go_wp2_with (go_at_call 38; refine (HUB.out _).mono ?_; rintro e w1 ⟨rfl, hf⟩; (have hcv := conv_enc HR.out hf); (have HF := Lib.hid hf); clear hf))
      go_ret
      exact ⟨by rw [HB.out]; rfl, HF.out.below⟩
end Go.Proofs.YthloijpnbljpeaaDoor
