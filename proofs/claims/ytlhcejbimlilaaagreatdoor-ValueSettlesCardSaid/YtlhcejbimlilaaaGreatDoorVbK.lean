/- The laws' examples: plain. -/
import Derived.Test.YtlhcejbimlilaaaGreatDoorVbO
set_option linter.unusedVariables false
set_option linter.unusedSimpArgs false
namespace Go.Proofs.YtlhcejbimlilaaaGreatDoor
open Go.RowKit Go.Tk
def nDec : List UInt8 := [100, 101, 99, 105, 109, 97, 108]
def nDtm : List UInt8 := [100, 97, 116, 101, 84, 105, 109, 101]
def nInt : List UInt8 := [105, 110, 116, 101, 103, 101, 114]
def nByte : List UInt8 := [98, 121, 116, 101]
def nDbl : List UInt8 := [100, 111, 117, 98, 108, 101]
theorem wk1 : canE (xsd ++ nDec) [43, 48, 49, 46, 53, 48] = ([49, 46, 53], 0) := by
  have h0 : chkE (xsd ++ nDec) [43, 48, 49, 46, 53, 48] = 0 := by kernel_rfl
  unfold canE
  rw [h0, if_neg (by simp)]
  have h1 : kdOf (xsd ++ nDec) = some .dec := by kernel_rfl
  rw [h1]
  have h2 : ownE .dec [43, 48, 49, 46, 53, 48] = some [49, 46, 53] := by
    show (decP [43, 48, 49, 46, 53, 48]).map plN = _
    kernel_rfl
  dsimp only
  rw [h2]
  rfl
theorem wk3 : cmpF 2 [48, 46, 49] [49, 101, 45, 49] = (0, true) := by
  show agN (nuN [48, 46, 49]) (nuN [49, 101, 45, 49]) = _
  kernel_rfl
theorem wk4 : cmpF 2 [45, 49, 48] [57] = (-1, true) := by
  show agN (nuN [45, 49, 48]) (nuN [57]) = _
  kernel_rfl
theorem wk5 : chkE (xsd ++ nByte) [49, 50, 56] = 80 := by kernel_rfl
def tB : List UInt8 := [50, 48, 50, 52, 45, 48, 50, 45, 50, 56, 84, 50, 52, 58, 48, 48, 58, 48, 48, 43, 48, 50, 58, 48, 48]
def tO : List UInt8 := [50, 48, 50, 52, 45, 48, 50, 45, 50, 56, 84, 50, 50, 58, 48, 48, 58, 48, 48, 90]
theorem it_2024 : Lib.itoa 2024 = [50, 48, 50, 52] := by
  rw [show (2024 : Int) = ((2024 : Nat) : Int) from rfl, Lib.itoa_nonneg]
  simp [Lib.decDigits]
theorem it_28 : Lib.itoa 28 = [50, 56] := by
  rw [show (28 : Int) = ((28 : Nat) : Int) from rfl, Lib.itoa_nonneg]
  simp [Lib.decDigits]
theorem it_22 : Lib.itoa 22 = [50, 50] := by
  rw [show (22 : Int) = ((22 : Nat) : Int) from rfl, Lib.itoa_nonneg]
  simp [Lib.decDigits]
theorem it_2 : Lib.itoa 2 = [50] := by
  rw [show (2 : Int) = ((2 : Nat) : Int) from rfl, Lib.itoa_nonneg]
  simp [Lib.decDigits]
theorem it_0 : Lib.itoa 0 = [48] := by
  rw [show (0 : Int) = ((0 : Nat) : Int) from rfl, Lib.itoa_nonneg]
  simp [Lib.decDigits]
theorem wk2 : canE (xsd ++ nDtm) tB = (tO, 0) := by
  have h0 : chkE (xsd ++ nDtm) tB = 0 := by kernel_rfl
  unfold canE
  rw [h0, if_neg (by simp)]
  have h1 : kdOf (xsd ++ nDtm) = some .dtm := by kernel_rfl
  rw [h1]
  have h3 : rdDT tB = some ⟨63876384000, [], true, 120, [43, 48, 50, 58, 48, 48]⟩ := by kernel_rfl
  have hd : IsDate 739309 2024 2 28 := ⟨by decide, by decide, by decide, by decide, by decide⟩
  have hF := dateF_eq hd
  have h2 : ownE .dtm tB = some tO := by
    show (rdDT tB).bind (fun m => dtOw ((utM m).sec / 86400) ([84] ++ ckP (utM m).sec (utM m).part ++ (utM m).sp)) = _
    rw [h3]
    show dtOw (63876376800 / 86400) ([84] ++ ckP 63876376800 [] ++ [90]) = _
    rw [show (63876376800 : Int) / 86400 = 739309 from by decide]
    unfold dtOw
    rw [hF]
    dsimp only
    rw [if_neg (show ¬ (2024 : Int) < 0 by decide), if_pos (show (2024 : Int) ≤ 999999999 by decide)]
    unfold dtP ckP pdP
    rw [show (63876376800 : Int) % 86400 / 3600 = 22 from by decide, show (63876376800 : Int) % 86400 / 60 % 60 = 0 from by decide, show (63876376800 : Int) % 86400 % 60 = 0 from by decide, if_neg (show ¬ (2024 : Int) < 0 by decide), show (if (2024 : Int) < 0 then (-2024 : Int) else 2024) = 2024 from rfl, it_2024, it_28, it_22, it_2, it_0]
    rfl
  dsimp only
  rw [h2]
  rfl
theorem num_calls (e : Int) (w : World) : Calls Tryz.prog 12 #[.int .i64 e] w fun e' w' => e' = .returned (.int .i64 e) ∧ w = w' := by
  go_enter Tryz.func12, Tryz.ntmps12
  go_wp2_with fail
  go_ret
  exact ⟨rfl, rfl⟩
def bDec : ByteArray := ⟨nDec.toArray⟩
theorem can_closed {t s r : List UInt8} {n : Int} (h : canE t s = (r, n)) (hs : s.length ≤ 100) (w : World) (hpw : Pow w) :
    Calls Tryz.prog 15 #[.string ⟨t.toArray⟩, .string ⟨s.toArray⟩] w fun e w' => e = .returned (.tuple #[.string ⟨r.toArray⟩, .int .i64 n]) ∧ Below w.heap.size w w' := by
  have hc := canonical_calls ⟨t.toArray⟩ ⟨s.toArray⟩ w hpw (by rw [sz_mk]; omega)
  rw [show (⟨t.toArray⟩ : ByteArray).data.toList = t from rfl, show (⟨s.toArray⟩ : ByteArray).data.toList = s from rfl, h] at hc
  exact hc
set_option maxHeartbeats 4000000 in
theorem works_calls (w : World) (hpw : Pow w) : Calls Tryz.prog 21 #[] w fun e w' => e = .returned (.bool true) ∧ Below w.heap.size w w' := by
  have h1 : ∀ w, Pow w → Calls Tryz.prog 15 #[.string ⟨#[104, 116, 116, 112, 58, 47, 47, 119, 119, 119, 46, 119, 51, 46, 111, 114, 103, 47, 50, 48, 48, 49, 47, 88, 77, 76, 83, 99, 104, 101, 109, 97, 35, 100, 101, 99, 105, 109, 97, 108]⟩, .string ⟨#[43, 48, 49, 46, 53, 48]⟩] w fun e w' => e = .returned (.tuple #[.string ⟨#[49, 46, 53]⟩, .int .i64 0]) ∧ Below w.heap.size w w' := fun w h => can_closed wk1 (by decide) w h
  have h2 : ∀ w, Pow w → Calls Tryz.prog 15 #[.string ⟨#[104, 116, 116, 112, 58, 47, 47, 119, 119, 119, 46, 119, 51, 46, 111, 114, 103, 47, 50, 48, 48, 49, 47, 88, 77, 76, 83, 99, 104, 101, 109, 97, 35, 100, 97, 116, 101, 84, 105, 109, 101]⟩, .string ⟨#[50, 48, 50, 52, 45, 48, 50, 45, 50, 56, 84, 50, 52, 58, 48, 48, 58, 48, 48, 43, 48, 50, 58, 48, 48]⟩] w fun e w' => e = .returned (.tuple #[.string ⟨#[50, 48, 50, 52, 45, 48, 50, 45, 50, 56, 84, 50, 50, 58, 48, 48, 58, 48, 48, 90]⟩, .int .i64 0]) ∧ Below w.heap.size w w' := fun w h => can_closed wk2 (by decide) w h
  have l1 : ∀ w, Calls Tryz.prog 22 #[.string ⟨#[100, 101, 99, 105, 109, 97, 108]⟩, .string ⟨#[48, 46, 49]⟩] w fun e w' => e = .returned (litT ⟨nDec.toArray⟩ ⟨#[48, 46, 49]⟩).val ∧ Below w.heap.size w w' := fun w => lit_calls _ _ w (by decide)
  have l2 : ∀ w, Calls Tryz.prog 22 #[.string ⟨#[100, 111, 117, 98, 108, 101]⟩, .string ⟨#[49, 101, 45, 49]⟩] w fun e w' => e = .returned (litT ⟨nDbl.toArray⟩ ⟨#[49, 101, 45, 49]⟩).val ∧ Below w.heap.size w w' := fun w => lit_calls _ _ w (by decide)
  have l3 : ∀ w, Calls Tryz.prog 22 #[.string ⟨#[105, 110, 116, 101, 103, 101, 114]⟩, .string ⟨#[45, 49, 48]⟩] w fun e w' => e = .returned (litT ⟨nInt.toArray⟩ ⟨#[45, 49, 48]⟩).val ∧ Below w.heap.size w w' := fun w => lit_calls _ _ w (by decide)
  have l4 : ∀ w, Calls Tryz.prog 22 #[.string ⟨#[98, 121, 116, 101]⟩, .string ⟨#[57]⟩] w fun e w' => e = .returned (litT ⟨nByte.toArray⟩ ⟨#[57]⟩).val ∧ Below w.heap.size w w' := fun w => lit_calls _ _ w (by decide)
  have c1 := fun w => cmp_calls (litT ⟨nDec.toArray⟩ ⟨#[48, 46, 49]⟩) (litT ⟨nDbl.toArray⟩ ⟨#[49, 101, 45, 49]⟩) w (by decide) (by decide)
  have e1 : cmpE (litT ⟨nDec.toArray⟩ ⟨#[48, 46, 49]⟩) (litT ⟨nDbl.toArray⟩ ⟨#[49, 101, 45, 49]⟩) = (0, true) := by
    unfold cmpE
    rw [if_pos ⟨by kernel_rfl, by kernel_rfl, by kernel_rfl⟩]
    exact wk3
  have c2 := fun w => cmp_calls (litT ⟨nInt.toArray⟩ ⟨#[45, 49, 48]⟩) (litT ⟨nByte.toArray⟩ ⟨#[57]⟩) w (by decide) (by decide)
  have e2 : cmpE (litT ⟨nInt.toArray⟩ ⟨#[45, 49, 48]⟩) (litT ⟨nByte.toArray⟩ ⟨#[57]⟩) = (-1, true) := by
    unfold cmpE
    rw [if_pos ⟨by kernel_rfl, by kernel_rfl, by kernel_rfl⟩]
    exact wk4
  rw [e1] at c1
  rw [e2] at c2
  have k1 : ∀ w, Calls Tryz.prog 13 #[.string ⟨#[104, 116, 116, 112, 58, 47, 47, 119, 119, 119, 46, 119, 51, 46, 111, 114, 103, 47, 50, 48, 48, 49, 47, 88, 77, 76, 83, 99, 104, 101, 109, 97, 35, 98, 121, 116, 101]⟩, .string ⟨#[49, 50, 56]⟩] w fun e w' => e = .returned (.int .i64 80) ∧ Below w.heap.size w w' := fun w => by
    have := vcheck_calls ⟨(xsd ++ nByte).toArray⟩ ⟨#[49, 50, 56]⟩ w (by decide)
    rw [show chkE (⟨(xsd ++ nByte).toArray⟩ : ByteArray).data.toList (⟨#[49, 50, 56]⟩ : ByteArray).data.toList = 80 from wk5] at this
    exact this
  obtain ⟨A, hA⟩ : ∃ A, A = (litT ⟨nDec.toArray⟩ ⟨#[48, 46, 49]⟩).val := ⟨_, rfl⟩
  obtain ⟨B, hB⟩ : ∃ A, A = (litT ⟨nDbl.toArray⟩ ⟨#[49, 101, 45, 49]⟩).val := ⟨_, rfl⟩
  obtain ⟨C, hC⟩ : ∃ A, A = (litT ⟨nInt.toArray⟩ ⟨#[45, 49, 48]⟩).val := ⟨_, rfl⟩
  obtain ⟨D, hD⟩ : ∃ A, A = (litT ⟨nByte.toArray⟩ ⟨#[57]⟩).val := ⟨_, rfl⟩
  rw [← hA] at l1 c1
  rw [← hB] at l2 c1
  rw [← hC] at l3 c2
  rw [← hD] at l4 c2
  have H1 := Lib.hid h1
  have H2 := Lib.hid h2
  have L1 := Lib.hid l1
  have L2 := Lib.hid l2
  have L3 := Lib.hid l3
  have L4 := Lib.hid l4
  have C1 := Lib.hid c1
  have C2 := Lib.hid c2
  have K1 := Lib.hid k1
  have HP := Lib.hid hpw
  have N := Lib.hid num_calls
  clear h1 h2 l1 l2 l3 l4 c1 c2 e1 e2 k1 hA hB hC hD hpw
  go_enter Tryz.func21, Tryz.ntmps21
  go_upto_region 2 with (go_at_call 15; (with_reducible refine (H1.out _ HP.out).mono ?_); rintro e w1 ⟨rfl, hb1⟩)
  have HP1 := Lib.hid (HP.out.below hb1)
  go_upto_region 3 with (go_at_call 15; (with_reducible refine (H2.out _ HP1.out).mono ?_); rintro e w2 ⟨rfl, hb2⟩)
  have hb3 := hb1.trans (hb2.mono hb1.size)
  clear hb1 hb2
  go_wp2_with (first | (go_at_call 22; (first | ((with_reducible refine (L1.out _).mono ?_); rintro e w4 ⟨rfl, hb4⟩) | ((with_reducible refine (L2.out _).mono ?_); rintro e w5 ⟨rfl, hb5⟩) | ((with_reducible refine (L3.out _).mono ?_); rintro e w7 ⟨rfl, hb7⟩) | ((with_reducible refine (L4.out _).mono ?_); rintro e w8 ⟨rfl, hb8⟩))) | (go_at_call 17; (first | ((with_reducible refine (C1.out _).mono ?_); rintro e w6 ⟨rfl, hb6⟩) | ((with_reducible refine (C2.out _).mono ?_); rintro e w9 ⟨rfl, hb9⟩))) | (go_at_call 13; (with_reducible refine (K1.out _).mono ?_); rintro e w10 ⟨rfl, hb10⟩) | (go_at_call 12; (with_reducible refine (N.out _ _).mono ?_); rintro e w11 ⟨rfl, rfl⟩))
  go_ret
  have a4 := hb3.trans (hb4.mono hb3.size)
  have a5 := a4.trans (hb5.mono a4.size)
  have a6 := a5.trans (hb6.mono a5.size)
  have a7 := a6.trans (hb7.mono a6.size)
  have a8 := a7.trans (hb8.mono a7.size)
  have a9 := a8.trans (hb9.mono a8.size)
  exact ⟨rfl, a9.trans (hb10.mono a9.size)⟩
end Go.Proofs.YtlhcejbimlilaaaGreatDoor
