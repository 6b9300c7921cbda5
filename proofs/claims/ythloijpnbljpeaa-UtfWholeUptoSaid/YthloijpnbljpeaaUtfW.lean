/- written: a scalar as it is written: the program's, the document's. -/
import Derived.Test.YthloijpnbljpeaaUtfDg
import Derived.Test.YthloijpnbljpeaaUtfUB
import Derived.Test.YthloijpnbljpeaaShelf
import Derived.Outline
set_option linter.unusedVariables false
set_option linter.unusedSimpArgs false
namespace Go.Tk
open Go Go.RowKit
/-- What stands behind the backslash of an escape of one letter, where a scalar has one. -/
def escQ (r : Int) : Option UInt8 := if r = 8 then some 98 else if r = 9 then some 116 else if r = 10 then some 110 else if r = 12 then some 102 else if r = 13 then some 114 else if r = 34 then some 34 else if r = 92 then some 92 else none
/-- Between < and >: must it be escaped? -/
def badA (r : Int) : Bool := decide (r ≤ 32) || decide (r = 60) || decide (r = 62) || decide (r = 34) || decide (r = 123) || decide (r = 125) || decide (r = 124) || decide (r = 94) || decide (r = 96) || decide (r = 92)
/-- A scalar as it is written. -/
def wrB (r way : Int) : List UInt8 :=
  if way = 1 then (match escQ r with | some c => [92, c] | none => if r < 32 ∨ r = 127 then [92, 117] ++ digB r else encB r)
  else if badA r then [92, 117] ++ digB r else encB r
theorem encB_len {r : Int} : (encB r).length ≤ 4 ∧ 1 ≤ (encB r).length := by
  have := encZ_len r
  simp only [encB, bytesOf, List.length_map]
  omega
theorem wrB_len (r way : Int) : (wrB r way).length ≤ 6 := by
  have := (encB_len (r := r)).1
  have hd : ([92, 117] ++ digB r : List UInt8).length = 6 := rfl
  unfold wrB
  split
  · split
    · simp
    · split <;> omega
  · split <;> omega
theorem cat_two (l : List UInt8) : (⟨#[92, 117]⟩ : ByteArray) ++ (⟨l.toArray⟩ : ByteArray) = ⟨([92, 117] ++ l).toArray⟩ := by
  apply ByteArray.ext
  simp
/-- The texts of the program's table of escapes. -/
theorem idx_angled : ∀ r : Fin 128, 32 < r.val → (decide ((0 : Int) ≤ Lib.indexByte [60, 62, 34, 123, 125, 124, 94, 96, 92] ((r.val : Int).toNat.toUInt8)) = badA (r.val : Int)) := by decide +kernel
theorem idx_quoted : ∀ r : Fin 128, r.val ≠ 39 → (Lib.indexByte [9, 8, 10, 13, 12, 34, 39, 92] ((r.val : Int).toNat.toUInt8) < 0 ∧ escQ (r.val : Int) = none) ∨
    (0 ≤ Lib.indexByte [9, 8, 10, 13, 12, 34, 39, 92] ((r.val : Int).toNat.toUInt8) ∧ Lib.indexByte [9, 8, 10, 13, 12, 34, 39, 92] ((r.val : Int).toNat.toUInt8) < 8 ∧
      ∃ c, escQ (r.val : Int) = some c ∧ (⟨#[92]⟩ : ByteArray) ++ (⟨#[116, 98, 110, 114, 102, 34, 39, 92]⟩ : ByteArray).extract (Lib.indexByte [9, 8, 10, 13, 12, 34, 39, 92] ((r.val : Int).toNat.toUInt8)).toNat (Lib.indexByte [9, 8, 10, 13, 12, 34, 39, 92] ((r.val : Int).toNat.toUInt8) + 1).toNat = ⟨[92, c].toArray⟩) := by
  intro r h
  cases he : escQ (r.val : Int) with
  | none => left; revert he h; revert r; decide +kernel
  | some c =>
    right
    have : ∀ r : Fin 128, r.val ≠ 39 → escQ (r.val : Int) ≠ none → (0 ≤ Lib.indexByte [9, 8, 10, 13, 12, 34, 39, 92] ((r.val : Int).toNat.toUInt8) ∧ Lib.indexByte [9, 8, 10, 13, 12, 34, 39, 92] ((r.val : Int).toNat.toUInt8) < 8 ∧
      (⟨#[92]⟩ : ByteArray) ++ (⟨#[116, 98, 110, 114, 102, 34, 39, 92]⟩ : ByteArray).extract (Lib.indexByte [9, 8, 10, 13, 12, 34, 39, 92] ((r.val : Int).toNat.toUInt8)).toNat (Lib.indexByte [9, 8, 10, 13, 12, 34, 39, 92] ((r.val : Int).toNat.toUInt8) + 1).toNat = ⟨[92, (escQ (r.val : Int)).getD 0].toArray⟩) := by decide +kernel
    obtain ⟨h1, h2, h3⟩ := this r h (by rw [he]; simp)
    rw [he] at h3
    exact ⟨h1, h2, c, rfl, h3⟩
end Go.Tk
namespace Go.Proofs.Ythloijpnbljpeaa
open Go.RowKit Go.Tk
/-- A fresh row of a scalar's bytes, as a string. -/
theorem conv_enc {r : Int} {w w' : World} {g : Nat} (h : scalarB r = true) (hf : Fresh .u8 5 w w' g (encZ r)) :
    (convert 22 9 (.slice (some ⟨g, 0, none⟩) (encZ r).length (encZ r).length)).run Try.prog w' = .ok (.string ⟨(encB r).toArray⟩) w' := by
  have e := nums_encB' h
  have el : (encZ r).length = (encB r).length := by rw [← e, nums_len]
  have hs : SlI .u8 w' (some ⟨g, 0, none⟩) (encB r).length (encB r).length (nums (encB r)) := ⟨by rw [nums_len], Nat.le_refl _, by have := (encB_len (r := r)).1; omega, fun i hi => ⟨g, 0, rfl, by rw [e, Nat.zero_add]; exact hf.row.cell i (by omega)⟩⟩
  rw [el]
  exact SlI.bytes Try.underlying22 Try.underlying5 Try.underlying9 hs
set_option maxRecDepth 100000 in
set_option maxHeartbeats 4000000 in
theorem uwritten_calls (r way : Int) (w : World) (hr : scalarB r = true) :
    Calls Try.prog 29 #[.int .i32 r, .int .i64 way] w fun e w' => e = .returned (.string ⟨(wrB r way).toArray⟩) ∧ Below w.heap.size w w' := by
  have hsc := (scalarB_iff r).1 hr
  have h0 := hsc.1
  have h1 := hsc.2.1
  have HR := Lib.hid hr
  clear hr hsc
  have hub := fun w => ubytes_calls r w h0 h1
  have hud := fun w => udigits_calls r w h0
  have hnn := fun w => Try.strings_IndexByte ⟨#[60, 62, 34, 123, 125, 124, 94, 96, 92]⟩ r w
  have hmm := fun w => Try.strings_IndexByte ⟨#[9, 8, 10, 13, 12, 34, 39, 92]⟩ r w
  obtain ⟨xn, hxn⟩ : ∃ x, x = Lib.indexByte [60, 62, 34, 123, 125, 124, 94, 96, 92] r.toNat.toUInt8 := ⟨_, rfl⟩
  obtain ⟨xm, hxm⟩ : ∃ x, x = Lib.indexByte [9, 8, 10, 13, 12, 34, 39, 92] r.toNat.toUInt8 := ⟨_, rfl⟩
  have en : 32 < r → r < 128 → decide ((0 : Int) ≤ xn) = badA r := fun h2 h3 => by
    have := idx_angled ⟨r.toNat, by omega⟩ (by simp; omega)
    simp only [Int.toNat_of_nonneg h0] at this
    rw [hxn]; exact this
  have em : r < 128 → r ≠ 39 → (xm < 0 ∧ escQ r = none) ∨ (0 ≤ xm ∧ xm < 8 ∧ ∃ c, escQ r = some c ∧ (⟨#[92]⟩ : ByteArray) ++ (⟨#[116, 98, 110, 114, 102, 34, 39, 92]⟩ : ByteArray).extract xm.toNat (xm + 1).toNat = ⟨[92, c].toArray⟩) := fun h2 h3 => by
    have := idx_quoted ⟨r.toNat, by omega⟩ (by simp; omega)
    simp only [Int.toNat_of_nonneg h0] at this
    rw [hxm]; exact this
  have hnn' : ∀ w, Calls Try.prog 34 #[.string ⟨#[60, 62, 34, 123, 125, 124, 94, 96, 92]⟩, .int .u8 r] w fun e w' => e = .returned (.int .i64 xn) ∧ w' = w := fun w => by rw [hxn]; exact hnn w
  have hmm' : ∀ w, Calls Try.prog 34 #[.string ⟨#[9, 8, 10, 13, 12, 34, 39, 92]⟩, .int .u8 r] w fun e w' => e = .returned (.int .i64 xm) ∧ w' = w := fun w => by rw [hxm]; exact hmm w
  clear hnn hmm hxn hxm
  have EN := Lib.hid en
  have EM := Lib.hid em
  have HNN := Lib.hid hnn'
  have HMM := Lib.hid hmm'
  have HUB := Lib.hid hub
  have HUD := Lib.hid hud
  clear en em hnn' hmm' hub hud
  by_cases hw : way = 1
  · subst hw
    by_cases c1 : r < 128
    · by_cases c2 : r = 39
      · subst c2
        have hb : wrB 39 1 = encB 39 := by decide +kernel
        have HB := Lib.hid hb
        clear hb
        go_enter Try.func29, Try.ntmps29
        go_wp2_with (go_at_call 19; refine (HUB.out _).mono ?_; rintro e w1 ⟨rfl, hf⟩; (have hcv := conv_enc HR.out hf); (have HF := Lib.hid hf); clear hf)
        go_ret
        exact ⟨by rw [HB.out]; rfl, HF.out.below⟩
      · rcases EM.out c1 c2 with ⟨m1, m2⟩ | ⟨m1, m2, c, m3, m4⟩
        · by_cases c3 : r < 32 ∨ r = 127
          · have hb : wrB r 1 = [92, 117] ++ digB r := by unfold wrB; rw [if_pos rfl, m2]; simp only; rw [if_pos c3]
            have HB := Lib.hid hb
            have M2 := Lib.hid m2
            clear hb m2
            have e3 : (decide (r < 32) || decide (r = 127)) = true := by simpa using c3
            by_cases c4 : r < 32
            · go_enter Try.func29, Try.ntmps29
              go_wp2_with (first | (go_at_call 34; refine (HMM.out _).mono ?_; rintro e w' ⟨rfl, rfl⟩) | (go_at_call 35; refine (HUD.out _ (by omega)).mono ?_; rintro e w1 ⟨rfl, hb1⟩))
              go_ret
              exact ⟨by rw [HB.out, ← cat_two]; rfl, hb1⟩
            · obtain rfl : r = 127 := by omega
              go_enter Try.func29, Try.ntmps29
              go_wp2_with (first | (go_at_call 34; refine (HMM.out _).mono ?_; rintro e w' ⟨rfl, rfl⟩) | (go_at_call 35; refine (HUD.out _ (by omega)).mono ?_; rintro e w1 ⟨rfl, hb1⟩))
              go_ret
              exact ⟨by rw [HB.out, ← cat_two]; rfl, hb1⟩
          · have hb : wrB r 1 = encB r := by unfold wrB; rw [if_pos rfl, m2]; simp only; rw [if_neg c3]
            have HB := Lib.hid hb
            have M2 := Lib.hid m2
            clear hb m2
            have c4 : ¬ r < 32 := fun h => c3 (.inl h)
            have c5 : ¬ r = 127 := fun h => c3 (.inr h)
            have e5 : (r == 127) = false := beq_eq_false_iff_ne.2 c5
            clear c3 c5
            go_enter Try.func29, Try.ntmps29
            go_wp2_with (first | (go_at_call 34; refine (HMM.out _).mono ?_; rintro e w' ⟨rfl, rfl⟩) | (go_at_call 19; refine (HUB.out _).mono ?_; rintro e w1 ⟨rfl, hf⟩; (have hcv := conv_enc HR.out hf); (have HF := Lib.hid hf); clear hf))
            go_ret
            exact ⟨by rw [HB.out]; rfl, HF.out.below⟩
        · have hb : wrB r 1 = [92, c] := by unfold wrB; rw [if_pos rfl, m3]
          have HB := Lib.hid hb
          have M3 := Lib.hid m3
          have M4 := Lib.hid m4
          clear hb m3 m4
          go_enter Try.func29, Try.ntmps29
          go_wp2_with (go_at_call 34; refine (HMM.out _).mono ?_; rintro e w' ⟨rfl, rfl⟩)
          go_ret
          exact ⟨by rw [HB.out, ← M4.out]; rfl, Below.refl _ _⟩
    · have hq : escQ r = none := by unfold escQ; repeat (rw [if_neg (by omega)])
      have hb : wrB r 1 = encB r := by unfold wrB; rw [if_pos rfl, hq]; simp only; rw [if_neg (by omega)]
      have HB := Lib.hid hb
      clear hb hq
      have c4 : ¬ r < 32 := by omega
      have c5 : ¬ r = 127 := by omega
      go_enter Try.func29, Try.ntmps29
      go_wp2_with (go_at_call 19; refine (HUB.out _).mono ?_; rintro e w1 ⟨rfl, hf⟩; (have hcv := conv_enc HR.out hf); (have HF := Lib.hid hf); clear hf)
      go_ret
      exact ⟨by rw [HB.out]; rfl, HF.out.below⟩
  · by_cases c1 : r ≤ 32
    · have hb : wrB r way = [92, 117] ++ digB r := by
        have : badA r = true := by simp [badA, c1]
        unfold wrB; rw [if_neg hw, if_pos this]
      have HB := Lib.hid hb
      clear hb
      go_enter Try.func29, Try.ntmps29
      go_wp2_with (go_at_call 35; refine (HUD.out _ (by omega)).mono ?_; rintro e w1 ⟨rfl, hb1⟩)
      go_ret
      exact ⟨by rw [HB.out, ← cat_two]; rfl, hb1⟩
    · by_cases c2 : r < 128
      · have e1 := EN.out (by omega) c2
        cases hbd : badA r with
        | true =>
          rw [hbd] at e1
          have e2 : 0 ≤ xn := of_decide_eq_true e1
          have hb : wrB r way = [92, 117] ++ digB r := by unfold wrB; rw [if_neg hw, if_pos hbd]
          have HB := Lib.hid hb
          clear hb hbd e1
          go_enter Try.func29, Try.ntmps29
          go_wp2_with (first | (go_at_call 34; refine (HNN.out _).mono ?_; rintro e w' ⟨rfl, rfl⟩) | (go_at_call 35; refine (HUD.out _ (by omega)).mono ?_; rintro e w1 ⟨rfl, hb1⟩))
          go_ret
          exact ⟨by rw [HB.out, ← cat_two]; rfl, hb1⟩
        | false =>
          rw [hbd] at e1
          have e2 : ¬ 0 ≤ xn := of_decide_eq_false e1
          have hb : wrB r way = encB r := by unfold wrB; rw [if_neg hw, if_neg (by rw [hbd]; decide)]
          have HB := Lib.hid hb
          clear hb hbd e1
          go_enter Try.func29, Try.ntmps29
          go_wp2_with (first | (go_at_call 34; refine (HNN.out _).mono ?_; rintro e w' ⟨rfl, rfl⟩) | (go_at_call 19; refine (HUB.out _).mono ?_; rintro e w1 ⟨rfl, hf⟩; (have hcv := conv_enc HR.out hf); (have HF := Lib.hid hf); clear hf))
          go_ret
          exact ⟨by rw [HB.out]; rfl, HF.out.below⟩
      · have hbd : badA r = false := by
          simp [badA]
          omega
        have hb : wrB r way = encB r := by unfold wrB; rw [if_neg hw, if_neg (by rw [hbd]; decide)]
        have HB := Lib.hid hb
        clear hb hbd
        go_enter Try.func29, Try.ntmps29
        go_wp2_with (go_at_call 19; refine (HUB.out _).mono ?_; rintro e w1 ⟨rfl, hf⟩; (have hcv := conv_enc HR.out hf); (have HF := Lib.hid hf); clear hf)
        go_ret
        exact ⟨by rw [HB.out]; rfl, HF.out.below⟩
end Go.Proofs.Ythloijpnbljpeaa
