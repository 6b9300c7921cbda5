/- VdD VdQ, laid as one. -/
import Derived.Test.YtlhcejbimlilaaaGreatDoorVaW
import Derived.Test.YtlhcejbimlilaaaGreatDoorVcB
import Derived.Test.YtlhcejbimlilaaaGreatDoorVaX
import Derived.Test.YtlhcejbimlilaaaGreatDoorVdB
import Derived.Lib.IndexLaws
set_option linter.unusedVariables false
set_option linter.unusedSimpArgs false
/- The document's double. -/
namespace Go.Proofs.YtlhcejbimlilaaaGreatDoor
open Go.RowKit Go.Tk
theorem rb_nan (w : World) : Calls Tryz.prog 73 #[.string ⟨#[78, 97, 78]⟩] w fun e' w' => e' = .returned (.tuple #[.agg #[.bool true, .bool false, .bool false, .string ⟨#[]⟩, .int .i64 0], .bool true]) ∧ Below w.heap.size w w' := by
  go_enter Tryz.func73, Tryz.ntmps73
  go_wp2_with fail
  refine bodyPost_ret (v := .tuple #[.agg #[.bool true, .bool false, .bool false, .string ⟨#[]⟩, .int .i64 0], .bool true]) (by simp [results, Tryz.results73, go_sem]) rfl ⟨rfl, ?_⟩
  repeat (first | with_reducible exact Below.refl _ _ | with_reducible refine below_drewN ?_ _ | (with_reducible refine Below.setCell ?_ (by simp) _) | (with_reducible refine Below.alloc ?_ (by simp) _))
theorem rb_inf (w : World) : Calls Tryz.prog 73 #[.string ⟨#[73, 78, 70]⟩] w fun e' w' => e' = .returned (.tuple #[.agg #[.bool false, .bool true, .bool false, .string ⟨#[]⟩, .int .i64 0], .bool true]) ∧ Below w.heap.size w w' := by
  go_enter Tryz.func73, Tryz.ntmps73
  go_wp2_with fail
  refine bodyPost_ret (v := .tuple #[.agg #[.bool false, .bool true, .bool false, .string ⟨#[]⟩, .int .i64 0], .bool true]) (by simp [results, Tryz.results73, go_sem]) rfl ⟨rfl, ?_⟩
  repeat (first | with_reducible exact Below.refl _ _ | with_reducible refine below_drewN ?_ _ | (with_reducible refine Below.setCell ?_ (by simp) _) | (with_reducible refine Below.alloc ?_ (by simp) _))
theorem rb_pinf (w : World) : Calls Tryz.prog 73 #[.string ⟨#[43, 73, 78, 70]⟩] w fun e' w' => e' = .returned (.tuple #[.agg #[.bool false, .bool true, .bool false, .string ⟨#[]⟩, .int .i64 0], .bool true]) ∧ Below w.heap.size w w' := by
  go_enter Tryz.func73, Tryz.ntmps73
  go_wp2_with fail
  refine bodyPost_ret (v := .tuple #[.agg #[.bool false, .bool true, .bool false, .string ⟨#[]⟩, .int .i64 0], .bool true]) (by simp [results, Tryz.results73, go_sem]) rfl ⟨rfl, ?_⟩
  repeat (first | with_reducible exact Below.refl _ _ | with_reducible refine below_drewN ?_ _ | (with_reducible refine Below.setCell ?_ (by simp) _) | (with_reducible refine Below.alloc ?_ (by simp) _))
theorem rb_minf (w : World) : Calls Tryz.prog 73 #[.string ⟨#[45, 73, 78, 70]⟩] w fun e' w' => e' = .returned (.tuple #[.agg #[.bool false, .bool true, .bool true, .string ⟨#[]⟩, .int .i64 0], .bool true]) ∧ Below w.heap.size w w' := by
  go_enter Tryz.func73, Tryz.ntmps73
  go_wp2_with fail
  refine bodyPost_ret (v := .tuple #[.agg #[.bool false, .bool true, .bool true, .string ⟨#[]⟩, .int .i64 0], .bool true]) (by simp [results, Tryz.results73, go_sem]) rfl ⟨rfl, ?_⟩
  repeat (first | with_reducible exact Below.refl _ _ | with_reducible refine below_drewN ?_ _ | (with_reducible refine Below.setCell ?_ (by simp) _) | (with_reducible refine Below.alloc ?_ (by simp) _))
set_option maxHeartbeats 2000000 in
theorem rb_dec (s : ByteArray) (w : World) (b1 b2 b3 : Bool) (D : ByteArray) (p : Int) (ok : Bool) (n1 : (s.toList == [78, 97, 78]) = false) (n2 : (s.toList == [73, 78, 70]) = false) (n3 : (s.toList == [43, 73, 78, 70]) = false) (n4 : (s.toList == [45, 73, 78, 70]) = false) (hs : s.size ≤ 4000000000) (hno : ∀ j, j < s.size → ∀ h : j < s.size, (((s[j]).toNat : Nat) : Int) ≠ 101 ∧ (((s[j]).toNat : Nat) : Int) ≠ 69)
    (hdc : ∀ w, Calls Tryz.prog 70 #[.string s, .int .i64 0] w fun e' w' => e' = .returned (.tuple #[.agg #[.bool b1, .bool b2, .bool b3, .string D, .int .i64 p], .bool ok]) ∧ Below w.heap.size w w') :
    Calls Tryz.prog 73 #[.string s] w fun e' w' => e' = .returned (.tuple #[.agg #[.bool b1, .bool b2, .bool b3, .string D, .int .i64 p], .bool ok]) ∧ Below w.heap.size w w' := by
  have HDC := Lib.hid hdc
  have HNO := Lib.hid hno
  clear hdc hno
  go_enter Tryz.func73, Tryz.ntmps73
  go_wp2_with fail
  go_loop [4] (fun i => ∃ j : Nat, j ≤ s.size ∧ i = .int .i64 (j : Nat)) (fun i => s.size - (intOf i).toNat)
  case atStart => exact ⟨0, Nat.zero_le _, rfl⟩
  case round =>
    obtain ⟨j, hj, rfl⟩ := hrel
    by_cases hlt : j < s.size
    ·
      have hjs : j < s.size := by omega
      have h1 : (((s[j]).toNat : Nat) : Int) ≠ 101 := (HNO.out j hlt hjs).1
      have h2 : (((s[j]).toNat : Nat) : Int) ≠ 69 := (HNO.out j hlt hjs).2
      have g1 : ((((s[j]).toNat : Nat) : Int) != 101) = true := bne_iff_ne.2 h1
      have g2 : ((((s[j]).toNat : Nat) : Int) != 69) = true := bne_iff_ne.2 h2
      clear h1 h2
      have hlt' := hlt
      go_wp2_with fail
      go_round
      case rel => exact ⟨j + 1, by omega, by go_num⟩
      case measure => simp [intOf]; omega
    · have hjs : j = s.size := by omega
      clear HNO
      go_wp2_with (go_at_call 70; (with_reducible refine (HDC.out _).mono ?_); rintro e' w1 ⟨rfl, hb1⟩; (have R1 := (Res1.start 61 #[.bool false, .bool false, .bool false, .string ⟨#[]⟩, .int .i64 0] w).next hb1); (have c10 : w1.cell? ⟨w.heap.size, 0, none⟩ = some (.bool false) := R1.cell 0); (have c11 : w1.cell? ⟨w.heap.size, 1, none⟩ = some (.bool false) := R1.cell 1); (have c12 : w1.cell? ⟨w.heap.size, 2, none⟩ = some (.bool false) := R1.cell 2); (have c13 : w1.cell? ⟨w.heap.size, 3, none⟩ = some (.string ⟨#[]⟩) := R1.cell 3); (have c14 : w1.cell? ⟨w.heap.size, 4, none⟩ = some (.int .i64 0) := R1.cell 4); (have f1 : ∀ i, w1.frozen? ⟨w.heap.size, i, none⟩ = false := R1.frozen))
      refine bodyPost_ret (v := .tuple #[.agg #[.bool b1, .bool b2, .bool b3, .string D, .int .i64 p], .bool ok]) (by simp [results, Tryz.results73, go_sem, c10, c11, c12, c13, c14]) rfl ⟨rfl, ?_⟩
      repeat (first | exact R1.below | with_reducible refine below_drewN ?_ _ | (with_reducible refine Below.setCell ?_ (by simp) _))
set_option maxHeartbeats 2000000 in
theorem rb_noe (s : ByteArray) (w : World) (n1 : (s.toList == [78, 97, 78]) = false) (n2 : (s.toList == [73, 78, 70]) = false) (n3 : (s.toList == [43, 73, 78, 70]) = false) (n4 : (s.toList == [45, 73, 78, 70]) = false) (hs : s.size ≤ 4000000000) (k : Nat) (hk : k < s.size) (X Y : ByteArray) (hX : s.extract (k + 1) s.size = X) (hYs : Y.size ≤ 4000000000) (by1 : Bool) (hc : (((s[k]).toNat : Nat) : Int) = 101)  (hno : ∀ j, j < k → ∀ h : j < s.size, (((s[j]).toNat : Nat) : Int) ≠ 101 ∧ (((s[j]).toNat : Nat) : Int) ≠ 69) 
    (hsg : ∀ w, Calls Tryz.prog 107 #[.string X] w fun e' w' => e' = .returned (.tuple #[.string Y, .bool by1]) ∧ Below w.heap.size w w') (hin : ∀ w, Calls Tryz.prog 71 #[.string X] w fun e' w' => e' = .returned (.bool false) ∧ Below w.heap.size w w') :
    Calls Tryz.prog 73 #[.string s] w fun e' w' => e' = .returned (.tuple #[.agg #[.bool false, .bool false, .bool false, .string ⟨#[]⟩, .int .i64 0], .bool false]) ∧ Below w.heap.size w w' := by
  have HSG := Lib.hid hsg
  have HIN := Lib.hid hin
  have HNO := Lib.hid hno
  clear hsg hin hno
  have HC := Lib.hid hc
  clear hc
  go_enter Tryz.func73, Tryz.ntmps73
  go_wp2_with fail
  go_loop [4] (fun i => ∃ j : Nat, j ≤ k ∧ i = .int .i64 (j : Nat)) (fun i => s.size - (intOf i).toNat)
  case atStart => exact ⟨0, Nat.zero_le _, rfl⟩
  case round =>
    obtain ⟨j, hj, rfl⟩ := hrel
    by_cases hlt : j < k
    ·
      have hjs : j < s.size := by omega
      have h1 : (((s[j]).toNat : Nat) : Int) ≠ 101 := (HNO.out j hlt hjs).1
      have h2 : (((s[j]).toNat : Nat) : Int) ≠ 69 := (HNO.out j hlt hjs).2
      have g1 : ((((s[j]).toNat : Nat) : Int) != 101) = true := bne_iff_ne.2 h1
      have g2 : ((((s[j]).toNat : Nat) : Int) != 69) = true := bne_iff_ne.2 h2
      clear h1 h2
      have hlt' := hlt
      go_wp2_with fail
      go_round
      case rel => exact ⟨j + 1, by omega, by go_num⟩
      case measure => simp [intOf]; omega
    · obtain rfl : j = k := by omega
      have hc := HC.out
      have hm9 : ((j : Int) + 1).toNat = j + 1 := by omega
      clear HNO HC hlt hj
      go_wp2_with (first | (go_at_call 107; (with_reducible refine (HSG.out _).mono ?_); rintro e' w1 ⟨rfl, hb1⟩; (have R1 := (Res1.start 61 #[.bool false, .bool false, .bool false, .string ⟨#[]⟩, .int .i64 0] w).next hb1); (have c10 : w1.cell? ⟨w.heap.size, 0, none⟩ = some (.bool false) := R1.cell 0); (have c11 : w1.cell? ⟨w.heap.size, 1, none⟩ = some (.bool false) := R1.cell 1); (have c12 : w1.cell? ⟨w.heap.size, 2, none⟩ = some (.bool false) := R1.cell 2); (have c13 : w1.cell? ⟨w.heap.size, 3, none⟩ = some (.string ⟨#[]⟩) := R1.cell 3); (have c14 : w1.cell? ⟨w.heap.size, 4, none⟩ = some (.int .i64 0) := R1.cell 4); (have f1 : ∀ i, w1.frozen? ⟨w.heap.size, i, none⟩ = false := R1.frozen)) | (go_at_call 71; (with_reducible refine (HIN.out _).mono ?_); rintro e' w2 ⟨rfl, hb2⟩; (have R2 := (R1).next hb2); (have c20 : w2.cell? ⟨w.heap.size, 0, none⟩ = some (.bool false) := R2.cell 0); (have c21 : w2.cell? ⟨w.heap.size, 1, none⟩ = some (.bool false) := R2.cell 1); (have c22 : w2.cell? ⟨w.heap.size, 2, none⟩ = some (.bool false) := R2.cell 2); (have c23 : w2.cell? ⟨w.heap.size, 3, none⟩ = some (.string ⟨#[]⟩) := R2.cell 3); (have c24 : w2.cell? ⟨w.heap.size, 4, none⟩ = some (.int .i64 0) := R2.cell 4); (have f2 : ∀ i, w2.frozen? ⟨w.heap.size, i, none⟩ = false := R2.frozen)))
      refine bodyPost_ret (v := .tuple #[.agg #[.bool false, .bool false, .bool false, .string ⟨#[]⟩, .int .i64 0], .bool false]) (by simp [results, Tryz.results73, go_sem, c20, c21, c22, c23, c24]) rfl ⟨rfl, ?_⟩
      repeat (first | exact R2.below | with_reducible refine below_drewN ?_ _ | (with_reducible refine Below.setCell ?_ (by simp) _))
set_option maxHeartbeats 2000000 in
theorem rb_longe (s : ByteArray) (w : World) (n1 : (s.toList == [78, 97, 78]) = false) (n2 : (s.toList == [73, 78, 70]) = false) (n3 : (s.toList == [43, 73, 78, 70]) = false) (n4 : (s.toList == [45, 73, 78, 70]) = false) (hs : s.size ≤ 4000000000) (k : Nat) (hk : k < s.size) (X Y : ByteArray) (hX : s.extract (k + 1) s.size = X) (hYs : Y.size ≤ 4000000000) (by1 : Bool) (hc : (((s[k]).toNat : Nat) : Int) = 101) (hl : (9 : Int) < (Y.size : Int)) (hno : ∀ j, j < k → ∀ h : j < s.size, (((s[j]).toNat : Nat) : Int) ≠ 101 ∧ (((s[j]).toNat : Nat) : Int) ≠ 69) 
    (hsg : ∀ w, Calls Tryz.prog 107 #[.string X] w fun e' w' => e' = .returned (.tuple #[.string Y, .bool by1]) ∧ Below w.heap.size w w') (hin : ∀ w, Calls Tryz.prog 71 #[.string X] w fun e' w' => e' = .returned (.bool true) ∧ Below w.heap.size w w') :
    Calls Tryz.prog 73 #[.string s] w fun e' w' => e' = .returned (.tuple #[.agg #[.bool false, .bool false, .bool false, .string ⟨#[]⟩, .int .i64 0], .bool false]) ∧ Below w.heap.size w w' := by
  have HSG := Lib.hid hsg
  have HIN := Lib.hid hin
  have HNO := Lib.hid hno
  clear hsg hin hno
  have HC := Lib.hid hc
  clear hc
  go_enter Tryz.func73, Tryz.ntmps73
  go_wp2_with fail
  go_loop [4] (fun i => ∃ j : Nat, j ≤ k ∧ i = .int .i64 (j : Nat)) (fun i => s.size - (intOf i).toNat)
  case atStart => exact ⟨0, Nat.zero_le _, rfl⟩
  case round =>
    obtain ⟨j, hj, rfl⟩ := hrel
    by_cases hlt : j < k
    ·
      have hjs : j < s.size := by omega
      have h1 : (((s[j]).toNat : Nat) : Int) ≠ 101 := (HNO.out j hlt hjs).1
      have h2 : (((s[j]).toNat : Nat) : Int) ≠ 69 := (HNO.out j hlt hjs).2
      have g1 : ((((s[j]).toNat : Nat) : Int) != 101) = true := bne_iff_ne.2 h1
      have g2 : ((((s[j]).toNat : Nat) : Int) != 69) = true := bne_iff_ne.2 h2
      clear h1 h2
      have hlt' := hlt
      go_wp2_with fail
      go_round
      case rel => exact ⟨j + 1, by omega, by go_num⟩
      case measure => simp [intOf]; omega
    · obtain rfl : j = k := by omega
      have hc := HC.out
      have hm9 : ((j : Int) + 1).toNat = j + 1 := by omega
      clear HNO HC hlt hj
      go_wp2_with (first | (go_at_call 107; (with_reducible refine (HSG.out _).mono ?_); rintro e' w1 ⟨rfl, hb1⟩; (have R1 := (Res1.start 61 #[.bool false, .bool false, .bool false, .string ⟨#[]⟩, .int .i64 0] w).next hb1); (have c10 : w1.cell? ⟨w.heap.size, 0, none⟩ = some (.bool false) := R1.cell 0); (have c11 : w1.cell? ⟨w.heap.size, 1, none⟩ = some (.bool false) := R1.cell 1); (have c12 : w1.cell? ⟨w.heap.size, 2, none⟩ = some (.bool false) := R1.cell 2); (have c13 : w1.cell? ⟨w.heap.size, 3, none⟩ = some (.string ⟨#[]⟩) := R1.cell 3); (have c14 : w1.cell? ⟨w.heap.size, 4, none⟩ = some (.int .i64 0) := R1.cell 4); (have f1 : ∀ i, w1.frozen? ⟨w.heap.size, i, none⟩ = false := R1.frozen)) | (go_at_call 71; (with_reducible refine (HIN.out _).mono ?_); rintro e' w2 ⟨rfl, hb2⟩; (have R2 := (R1).next hb2); (have c20 : w2.cell? ⟨w.heap.size, 0, none⟩ = some (.bool false) := R2.cell 0); (have c21 : w2.cell? ⟨w.heap.size, 1, none⟩ = some (.bool false) := R2.cell 1); (have c22 : w2.cell? ⟨w.heap.size, 2, none⟩ = some (.bool false) := R2.cell 2); (have c23 : w2.cell? ⟨w.heap.size, 3, none⟩ = some (.string ⟨#[]⟩) := R2.cell 3); (have c24 : w2.cell? ⟨w.heap.size, 4, none⟩ = some (.int .i64 0) := R2.cell 4); (have f2 : ∀ i, w2.frozen? ⟨w.heap.size, i, none⟩ = false := R2.frozen)))
      refine bodyPost_ret (v := .tuple #[.agg #[.bool false, .bool false, .bool false, .string ⟨#[]⟩, .int .i64 0], .bool false]) (by simp [results, Tryz.results73, go_sem, c20, c21, c22, c23, c24]) rfl ⟨rfl, ?_⟩
      repeat (first | exact R2.below | with_reducible refine below_drewN ?_ _ | (with_reducible refine Below.setCell ?_ (by simp) _))
set_option maxHeartbeats 2000000 in
theorem rb_oke (s : ByteArray) (w : World) (n1 : (s.toList == [78, 97, 78]) = false) (n2 : (s.toList == [73, 78, 70]) = false) (n3 : (s.toList == [43, 73, 78, 70]) = false) (n4 : (s.toList == [45, 73, 78, 70]) = false) (hs : s.size ≤ 4000000000) (k : Nat) (hk : k < s.size) (X Y : ByteArray) (hX : s.extract (k + 1) s.size = X) (hYs : Y.size ≤ 4000000000) (by1 : Bool) (hc : (((s[k]).toNat : Nat) : Int) = 101) (hl : (Y.size : Int) ≤ 9) (hno : ∀ j, j < k → ∀ h : j < s.size, (((s[j]).toNat : Nat) : Int) ≠ 101 ∧ (((s[j]).toNat : Nat) : Int) ≠ 69) (b1 b2 b3 : Bool) (D : ByteArray) (p : Int) (ok : Bool) (H : ByteArray) (z : Int) (hH : s.extract 0 k = H)
    (hsg : ∀ w, Calls Tryz.prog 107 #[.string X] w fun e' w' => e' = .returned (.tuple #[.string Y, .bool by1]) ∧ Below w.heap.size w w') (hin : ∀ w, Calls Tryz.prog 71 #[.string X] w fun e' w' => e' = .returned (.bool true) ∧ Below w.heap.size w w')
    (hsm : ∀ w, Calls Tryz.prog 110 #[.string X] w fun e' w' => e' = .returned (.int .i64 z) ∧ Below w.heap.size w w')
    (hdc : ∀ w, Calls Tryz.prog 70 #[.string H, .int .i64 z] w fun e' w' => e' = .returned (.tuple #[.agg #[.bool b1, .bool b2, .bool b3, .string D, .int .i64 p], .bool ok]) ∧ Below w.heap.size w w') :
    Calls Tryz.prog 73 #[.string s] w fun e' w' => e' = .returned (.tuple #[.agg #[.bool b1, .bool b2, .bool b3, .string D, .int .i64 p], .bool ok]) ∧ Below w.heap.size w w' := by
  have HSG := Lib.hid hsg
  have HIN := Lib.hid hin
  have HNO := Lib.hid hno
  have HSM := Lib.hid hsm
  have HDC := Lib.hid hdc
  clear hsm hdc
  clear hsg hin hno
  have HC := Lib.hid hc
  clear hc
  go_enter Tryz.func73, Tryz.ntmps73
  go_wp2_with fail
  go_loop [4] (fun i => ∃ j : Nat, j ≤ k ∧ i = .int .i64 (j : Nat)) (fun i => s.size - (intOf i).toNat)
  case atStart => exact ⟨0, Nat.zero_le _, rfl⟩
  case round =>
    obtain ⟨j, hj, rfl⟩ := hrel
    by_cases hlt : j < k
    ·
      have hjs : j < s.size := by omega
      have h1 : (((s[j]).toNat : Nat) : Int) ≠ 101 := (HNO.out j hlt hjs).1
      have h2 : (((s[j]).toNat : Nat) : Int) ≠ 69 := (HNO.out j hlt hjs).2
      have g1 : ((((s[j]).toNat : Nat) : Int) != 101) = true := bne_iff_ne.2 h1
      have g2 : ((((s[j]).toNat : Nat) : Int) != 69) = true := bne_iff_ne.2 h2
      clear h1 h2
      have hlt' := hlt
      go_wp2_with fail
      go_round
      case rel => exact ⟨j + 1, by omega, by go_num⟩
      case measure => simp [intOf]; omega
    · obtain rfl : j = k := by omega
      have hc := HC.out
      have hm9 : ((j : Int) + 1).toNat = j + 1 := by omega
      clear HNO HC hlt hj
      go_upto_region 18 with (first | (go_at_call 107; (with_reducible refine (HSG.out _).mono ?_); rintro e' w1 ⟨rfl, hb1⟩; (have R1 := (Res1.start 61 #[.bool false, .bool false, .bool false, .string ⟨#[]⟩, .int .i64 0] w).next hb1); (have c10 : w1.cell? ⟨w.heap.size, 0, none⟩ = some (.bool false) := R1.cell 0); (have c11 : w1.cell? ⟨w.heap.size, 1, none⟩ = some (.bool false) := R1.cell 1); (have c12 : w1.cell? ⟨w.heap.size, 2, none⟩ = some (.bool false) := R1.cell 2); (have c13 : w1.cell? ⟨w.heap.size, 3, none⟩ = some (.string ⟨#[]⟩) := R1.cell 3); (have c14 : w1.cell? ⟨w.heap.size, 4, none⟩ = some (.int .i64 0) := R1.cell 4); (have f1 : ∀ i, w1.frozen? ⟨w.heap.size, i, none⟩ = false := R1.frozen)) | (go_at_call 71; (with_reducible refine (HIN.out _).mono ?_); rintro e' w2 ⟨rfl, hb2⟩; (have R2 := (R1).next hb2); (have c20 : w2.cell? ⟨w.heap.size, 0, none⟩ = some (.bool false) := R2.cell 0); (have c21 : w2.cell? ⟨w.heap.size, 1, none⟩ = some (.bool false) := R2.cell 1); (have c22 : w2.cell? ⟨w.heap.size, 2, none⟩ = some (.bool false) := R2.cell 2); (have c23 : w2.cell? ⟨w.heap.size, 3, none⟩ = some (.string ⟨#[]⟩) := R2.cell 3); (have c24 : w2.cell? ⟨w.heap.size, 4, none⟩ = some (.int .i64 0) := R2.cell 4); (have f2 : ∀ i, w2.frozen? ⟨w.heap.size, i, none⟩ = false := R2.frozen)))
      refine wp_region_lw_tail 8 (by kernel_rfl) (by kernel_rfl) ?_
      simp only [List.take_succ_cons, List.take_zero, List.drop_succ_cons, List.drop_zero]
      repeat (go_big_quiet_step (first | exact rfl | (go_at_call 110; with_reducible exact lw_call (HSM.out _)) | (go_at_call 70; with_reducible exact lw_call (HDC.out _))))
      refine wpQuiet_nil ?_
      rintro ⟨w3, hb3⟩
      dsimp only
      have R3 := (R2).next hb3
      have c30 : w3.cell? ⟨w.heap.size, 0, none⟩ = some (.bool false) := R3.cell 0
      have c31 : w3.cell? ⟨w.heap.size, 1, none⟩ = some (.bool false) := R3.cell 1
      have c32 : w3.cell? ⟨w.heap.size, 2, none⟩ = some (.bool false) := R3.cell 2
      have c33 : w3.cell? ⟨w.heap.size, 3, none⟩ = some (.string ⟨#[]⟩) := R3.cell 3
      have c34 : w3.cell? ⟨w.heap.size, 4, none⟩ = some (.int .i64 0) := R3.cell 4
      have f3 : ∀ i, w3.frozen? ⟨w.heap.size, i, none⟩ = false := R3.frozen
      go_wp2_with fail
      refine bodyPost_ret (v := .tuple #[.agg #[.bool b1, .bool b2, .bool b3, .string D, .int .i64 p], .bool ok]) (by simp [results, Tryz.results73, go_sem, c30, c31, c32, c33, c34]) rfl ⟨rfl, ?_⟩
      repeat (first | exact R3.below | with_reducible refine below_drewN ?_ _ | (with_reducible refine Below.setCell ?_ (by simp) _))
set_option maxHeartbeats 2000000 in
theorem rb_noE (s : ByteArray) (w : World) (n1 : (s.toList == [78, 97, 78]) = false) (n2 : (s.toList == [73, 78, 70]) = false) (n3 : (s.toList == [43, 73, 78, 70]) = false) (n4 : (s.toList == [45, 73, 78, 70]) = false) (hs : s.size ≤ 4000000000) (k : Nat) (hk : k < s.size) (X Y : ByteArray) (hX : s.extract (k + 1) s.size = X) (hYs : Y.size ≤ 4000000000) (by1 : Bool) (hc : (((s[k]).toNat : Nat) : Int) = 69)  (hno : ∀ j, j < k → ∀ h : j < s.size, (((s[j]).toNat : Nat) : Int) ≠ 101 ∧ (((s[j]).toNat : Nat) : Int) ≠ 69) 
    (hsg : ∀ w, Calls Tryz.prog 107 #[.string X] w fun e' w' => e' = .returned (.tuple #[.string Y, .bool by1]) ∧ Below w.heap.size w w') (hin : ∀ w, Calls Tryz.prog 71 #[.string X] w fun e' w' => e' = .returned (.bool false) ∧ Below w.heap.size w w') :
    Calls Tryz.prog 73 #[.string s] w fun e' w' => e' = .returned (.tuple #[.agg #[.bool false, .bool false, .bool false, .string ⟨#[]⟩, .int .i64 0], .bool false]) ∧ Below w.heap.size w w' := by
  have HSG := Lib.hid hsg
  have HIN := Lib.hid hin
  have HNO := Lib.hid hno
  clear hsg hin hno
  have HC := Lib.hid hc
  clear hc
  go_enter Tryz.func73, Tryz.ntmps73
  go_wp2_with fail
  go_loop [4] (fun i => ∃ j : Nat, j ≤ k ∧ i = .int .i64 (j : Nat)) (fun i => s.size - (intOf i).toNat)
  case atStart => exact ⟨0, Nat.zero_le _, rfl⟩
  case round =>
    obtain ⟨j, hj, rfl⟩ := hrel
    by_cases hlt : j < k
    ·
      have hjs : j < s.size := by omega
      have h1 : (((s[j]).toNat : Nat) : Int) ≠ 101 := (HNO.out j hlt hjs).1
      have h2 : (((s[j]).toNat : Nat) : Int) ≠ 69 := (HNO.out j hlt hjs).2
      have g1 : ((((s[j]).toNat : Nat) : Int) != 101) = true := bne_iff_ne.2 h1
      have g2 : ((((s[j]).toNat : Nat) : Int) != 69) = true := bne_iff_ne.2 h2
      clear h1 h2
      have hlt' := hlt
      go_wp2_with fail
      go_round
      case rel => exact ⟨j + 1, by omega, by go_num⟩
      case measure => simp [intOf]; omega
    · obtain rfl : j = k := by omega
      have hc := HC.out
      have hm9 : ((j : Int) + 1).toNat = j + 1 := by omega
      clear HNO HC hlt hj
      go_wp2_with (first | (go_at_call 107; (with_reducible refine (HSG.out _).mono ?_); rintro e' w1 ⟨rfl, hb1⟩; (have R1 := (Res1.start 61 #[.bool false, .bool false, .bool false, .string ⟨#[]⟩, .int .i64 0] w).next hb1); (have c10 : w1.cell? ⟨w.heap.size, 0, none⟩ = some (.bool false) := R1.cell 0); (have c11 : w1.cell? ⟨w.heap.size, 1, none⟩ = some (.bool false) := R1.cell 1); (have c12 : w1.cell? ⟨w.heap.size, 2, none⟩ = some (.bool false) := R1.cell 2); (have c13 : w1.cell? ⟨w.heap.size, 3, none⟩ = some (.string ⟨#[]⟩) := R1.cell 3); (have c14 : w1.cell? ⟨w.heap.size, 4, none⟩ = some (.int .i64 0) := R1.cell 4); (have f1 : ∀ i, w1.frozen? ⟨w.heap.size, i, none⟩ = false := R1.frozen)) | (go_at_call 71; (with_reducible refine (HIN.out _).mono ?_); rintro e' w2 ⟨rfl, hb2⟩; (have R2 := (R1).next hb2); (have c20 : w2.cell? ⟨w.heap.size, 0, none⟩ = some (.bool false) := R2.cell 0); (have c21 : w2.cell? ⟨w.heap.size, 1, none⟩ = some (.bool false) := R2.cell 1); (have c22 : w2.cell? ⟨w.heap.size, 2, none⟩ = some (.bool false) := R2.cell 2); (have c23 : w2.cell? ⟨w.heap.size, 3, none⟩ = some (.string ⟨#[]⟩) := R2.cell 3); (have c24 : w2.cell? ⟨w.heap.size, 4, none⟩ = some (.int .i64 0) := R2.cell 4); (have f2 : ∀ i, w2.frozen? ⟨w.heap.size, i, none⟩ = false := R2.frozen)))
      refine bodyPost_ret (v := .tuple #[.agg #[.bool false, .bool false, .bool false, .string ⟨#[]⟩, .int .i64 0], .bool false]) (by simp [results, Tryz.results73, go_sem, c20, c21, c22, c23, c24]) rfl ⟨rfl, ?_⟩
      repeat (first | exact R2.below | with_reducible refine below_drewN ?_ _ | (with_reducible refine Below.setCell ?_ (by simp) _))
set_option maxHeartbeats 2000000 in
theorem rb_longE (s : ByteArray) (w : World) (n1 : (s.toList == [78, 97, 78]) = false) (n2 : (s.toList == [73, 78, 70]) = false) (n3 : (s.toList == [43, 73, 78, 70]) = false) (n4 : (s.toList == [45, 73, 78, 70]) = false) (hs : s.size ≤ 4000000000) (k : Nat) (hk : k < s.size) (X Y : ByteArray) (hX : s.extract (k + 1) s.size = X) (hYs : Y.size ≤ 4000000000) (by1 : Bool) (hc : (((s[k]).toNat : Nat) : Int) = 69) (hl : (9 : Int) < (Y.size : Int)) (hno : ∀ j, j < k → ∀ h : j < s.size, (((s[j]).toNat : Nat) : Int) ≠ 101 ∧ (((s[j]).toNat : Nat) : Int) ≠ 69) 
    (hsg : ∀ w, Calls Tryz.prog 107 #[.string X] w fun e' w' => e' = .returned (.tuple #[.string Y, .bool by1]) ∧ Below w.heap.size w w') (hin : ∀ w, Calls Tryz.prog 71 #[.string X] w fun e' w' => e' = .returned (.bool true) ∧ Below w.heap.size w w') :
    Calls Tryz.prog 73 #[.string s] w fun e' w' => e' = .returned (.tuple #[.agg #[.bool false, .bool false, .bool false, .string ⟨#[]⟩, .int .i64 0], .bool false]) ∧ Below w.heap.size w w' := by
  have HSG := Lib.hid hsg
  have HIN := Lib.hid hin
  have HNO := Lib.hid hno
  clear hsg hin hno
  have HC := Lib.hid hc
  clear hc
  go_enter Tryz.func73, Tryz.ntmps73
  go_wp2_with fail
  go_loop [4] (fun i => ∃ j : Nat, j ≤ k ∧ i = .int .i64 (j : Nat)) (fun i => s.size - (intOf i).toNat)
  case atStart => exact ⟨0, Nat.zero_le _, rfl⟩
  case round =>
    obtain ⟨j, hj, rfl⟩ := hrel
    by_cases hlt : j < k
    ·
      have hjs : j < s.size := by omega
      have h1 : (((s[j]).toNat : Nat) : Int) ≠ 101 := (HNO.out j hlt hjs).1
      have h2 : (((s[j]).toNat : Nat) : Int) ≠ 69 := (HNO.out j hlt hjs).2
      have g1 : ((((s[j]).toNat : Nat) : Int) != 101) = true := bne_iff_ne.2 h1
      have g2 : ((((s[j]).toNat : Nat) : Int) != 69) = true := bne_iff_ne.2 h2
      clear h1 h2
      have hlt' := hlt
      go_wp2_with fail
      go_round
      case rel => exact ⟨j + 1, by omega, by go_num⟩
      case measure => simp [intOf]; omega
    · obtain rfl : j = k := by omega
      have hc := HC.out
      have hm9 : ((j : Int) + 1).toNat = j + 1 := by omega
      clear HNO HC hlt hj
      go_wp2_with (first | (go_at_call 107; (with_reducible refine (HSG.out _).mono ?_); rintro e' w1 ⟨rfl, hb1⟩; (have R1 := (Res1.start 61 #[.bool false, .bool false, .bool false, .string ⟨#[]⟩, .int .i64 0] w).next hb1); (have c10 : w1.cell? ⟨w.heap.size, 0, none⟩ = some (.bool false) := R1.cell 0); (have c11 : w1.cell? ⟨w.heap.size, 1, none⟩ = some (.bool false) := R1.cell 1); (have c12 : w1.cell? ⟨w.heap.size, 2, none⟩ = some (.bool false) := R1.cell 2); (have c13 : w1.cell? ⟨w.heap.size, 3, none⟩ = some (.string ⟨#[]⟩) := R1.cell 3); (have c14 : w1.cell? ⟨w.heap.size, 4, none⟩ = some (.int .i64 0) := R1.cell 4); (have f1 : ∀ i, w1.frozen? ⟨w.heap.size, i, none⟩ = false := R1.frozen)) | (go_at_call 71; (with_reducible refine (HIN.out _).mono ?_); rintro e' w2 ⟨rfl, hb2⟩; (have R2 := (R1).next hb2); (have c20 : w2.cell? ⟨w.heap.size, 0, none⟩ = some (.bool false) := R2.cell 0); (have c21 : w2.cell? ⟨w.heap.size, 1, none⟩ = some (.bool false) := R2.cell 1); (have c22 : w2.cell? ⟨w.heap.size, 2, none⟩ = some (.bool false) := R2.cell 2); (have c23 : w2.cell? ⟨w.heap.size, 3, none⟩ = some (.string ⟨#[]⟩) := R2.cell 3); (have c24 : w2.cell? ⟨w.heap.size, 4, none⟩ = some (.int .i64 0) := R2.cell 4); (have f2 : ∀ i, w2.frozen? ⟨w.heap.size, i, none⟩ = false := R2.frozen)))
      refine bodyPost_ret (v := .tuple #[.agg #[.bool false, .bool false, .bool false, .string ⟨#[]⟩, .int .i64 0], .bool false]) (by simp [results, Tryz.results73, go_sem, c20, c21, c22, c23, c24]) rfl ⟨rfl, ?_⟩
      repeat (first | exact R2.below | with_reducible refine below_drewN ?_ _ | (with_reducible refine Below.setCell ?_ (by simp) _))
set_option maxHeartbeats 2000000 in
theorem rb_okE (s : ByteArray) (w : World) (n1 : (s.toList == [78, 97, 78]) = false) (n2 : (s.toList == [73, 78, 70]) = false) (n3 : (s.toList == [43, 73, 78, 70]) = false) (n4 : (s.toList == [45, 73, 78, 70]) = false) (hs : s.size ≤ 4000000000) (k : Nat) (hk : k < s.size) (X Y : ByteArray) (hX : s.extract (k + 1) s.size = X) (hYs : Y.size ≤ 4000000000) (by1 : Bool) (hc : (((s[k]).toNat : Nat) : Int) = 69) (hl : (Y.size : Int) ≤ 9) (hno : ∀ j, j < k → ∀ h : j < s.size, (((s[j]).toNat : Nat) : Int) ≠ 101 ∧ (((s[j]).toNat : Nat) : Int) ≠ 69) (b1 b2 b3 : Bool) (D : ByteArray) (p : Int) (ok : Bool) (H : ByteArray) (z : Int) (hH : s.extract 0 k = H)
    (hsg : ∀ w, Calls Tryz.prog 107 #[.string X] w fun e' w' => e' = .returned (.tuple #[.string Y, .bool by1]) ∧ Below w.heap.size w w') (hin : ∀ w, Calls Tryz.prog 71 #[.string X] w fun e' w' => e' = .returned (.bool true) ∧ Below w.heap.size w w')
    (hsm : ∀ w, Calls Tryz.prog 110 #[.string X] w fun e' w' => e' = .returned (.int .i64 z) ∧ Below w.heap.size w w')
    (hdc : ∀ w, Calls Tryz.prog 70 #[.string H, .int .i64 z] w fun e' w' => e' = .returned (.tuple #[.agg #[.bool b1, .bool b2, .bool b3, .string D, .int .i64 p], .bool ok]) ∧ Below w.heap.size w w') :
    Calls Tryz.prog 73 #[.string s] w fun e' w' => e' = .returned (.tuple #[.agg #[.bool b1, .bool b2, .bool b3, .string D, .int .i64 p], .bool ok]) ∧ Below w.heap.size w w' := by
  have HSG := Lib.hid hsg
  have HIN := Lib.hid hin
  have HNO := Lib.hid hno
  have HSM := Lib.hid hsm
  have HDC := Lib.hid hdc
  clear hsm hdc
  clear hsg hin hno
  have HC := Lib.hid hc
  clear hc
  go_enter Tryz.func73, Tryz.ntmps73
  go_wp2_with fail
  go_loop [4] (fun i => ∃ j : Nat, j ≤ k ∧ i = .int .i64 (j : Nat)) (fun i => s.size - (intOf i).toNat)
  case atStart => exact ⟨0, Nat.zero_le _, rfl⟩
  case round =>
    obtain ⟨j, hj, rfl⟩ := hrel
    by_cases hlt : j < k
    ·
      have hjs : j < s.size := by omega
      have h1 : (((s[j]).toNat : Nat) : Int) ≠ 101 := (HNO.out j hlt hjs).1
      have h2 : (((s[j]).toNat : Nat) : Int) ≠ 69 := (HNO.out j hlt hjs).2
      have g1 : ((((s[j]).toNat : Nat) : Int) != 101) = true := bne_iff_ne.2 h1
      have g2 : ((((s[j]).toNat : Nat) : Int) != 69) = true := bne_iff_ne.2 h2
      clear h1 h2
      have hlt' := hlt
      go_wp2_with fail
      go_round
      case rel => exact ⟨j + 1, by omega, by go_num⟩
      case measure => simp [intOf]; omega
    · obtain rfl : j = k := by omega
      have hc := HC.out
      have hm9 : ((j : Int) + 1).toNat = j + 1 := by omega
      clear HNO HC hlt hj
      go_upto_region 18 with (first | (go_at_call 107; (with_reducible refine (HSG.out _).mono ?_); rintro e' w1 ⟨rfl, hb1⟩; (have R1 := (Res1.start 61 #[.bool false, .bool false, .bool false, .string ⟨#[]⟩, .int .i64 0] w).next hb1); (have c10 : w1.cell? ⟨w.heap.size, 0, none⟩ = some (.bool false) := R1.cell 0); (have c11 : w1.cell? ⟨w.heap.size, 1, none⟩ = some (.bool false) := R1.cell 1); (have c12 : w1.cell? ⟨w.heap.size, 2, none⟩ = some (.bool false) := R1.cell 2); (have c13 : w1.cell? ⟨w.heap.size, 3, none⟩ = some (.string ⟨#[]⟩) := R1.cell 3); (have c14 : w1.cell? ⟨w.heap.size, 4, none⟩ = some (.int .i64 0) := R1.cell 4); (have f1 : ∀ i, w1.frozen? ⟨w.heap.size, i, none⟩ = false := R1.frozen)) | (go_at_call 71; (with_reducible refine (HIN.out _).mono ?_); rintro e' w2 ⟨rfl, hb2⟩; (have R2 := (R1).next hb2); (have c20 : w2.cell? ⟨w.heap.size, 0, none⟩ = some (.bool false) := R2.cell 0); (have c21 : w2.cell? ⟨w.heap.size, 1, none⟩ = some (.bool false) := R2.cell 1); (have c22 : w2.cell? ⟨w.heap.size, 2, none⟩ = some (.bool false) := R2.cell 2); (have c23 : w2.cell? ⟨w.heap.size, 3, none⟩ = some (.string ⟨#[]⟩) := R2.cell 3); (have c24 : w2.cell? ⟨w.heap.size, 4, none⟩ = some (.int .i64 0) := R2.cell 4); (have f2 : ∀ i, w2.frozen? ⟨w.heap.size, i, none⟩ = false := R2.frozen)))
      refine wp_region_lw_tail 8 (by kernel_rfl) (by kernel_rfl) ?_
      simp only [List.take_succ_cons, List.take_zero, List.drop_succ_cons, List.drop_zero]
      repeat (go_big_quiet_step (first | exact rfl | (go_at_call 110; with_reducible exact lw_call (HSM.out _)) | (go_at_call 70; with_reducible exact lw_call (HDC.out _))))
      refine wpQuiet_nil ?_
      rintro ⟨w3, hb3⟩
      dsimp only
      have R3 := (R2).next hb3
      have c30 : w3.cell? ⟨w.heap.size, 0, none⟩ = some (.bool false) := R3.cell 0
      have c31 : w3.cell? ⟨w.heap.size, 1, none⟩ = some (.bool false) := R3.cell 1
      have c32 : w3.cell? ⟨w.heap.size, 2, none⟩ = some (.bool false) := R3.cell 2
      have c33 : w3.cell? ⟨w.heap.size, 3, none⟩ = some (.string ⟨#[]⟩) := R3.cell 3
      have c34 : w3.cell? ⟨w.heap.size, 4, none⟩ = some (.int .i64 0) := R3.cell 4
      have f3 : ∀ i, w3.frozen? ⟨w.heap.size, i, none⟩ = false := R3.frozen
      go_wp2_with fail
      refine bodyPost_ret (v := .tuple #[.agg #[.bool b1, .bool b2, .bool b3, .string D, .int .i64 p], .bool ok]) (by simp [results, Tryz.results73, go_sem, c30, c31, c32, c33, c34]) rfl ⟨rfl, ?_⟩
      repeat (first | exact R3.below | with_reducible refine below_drewN ?_ _ | (with_reducible refine Below.setCell ?_ (by simp) _))
end Go.Proofs.YtlhcejbimlilaaaGreatDoor
/- The document's date, whole (written by gen_vdq.py). -/
namespace Go.Tk
open Go Go.RowKit
theorem dgN_app {p q : List UInt8} (h : dgB p = true) (hq : ∀ c t, q = c :: t → dgB [c] = false) : dgN (p ++ q) = p.length := by
  unfold dgN
  rw [List.takeWhile_append_of_pos (fun c hc => List.all_eq_true.1 h c hc)]
  cases q with
  | nil => simp
  | cons c t =>
    have := hq c t rfl
    unfold dgB at this
    rw [List.all_cons, List.all_nil, Bool.and_true] at this
    rw [List.takeWhile_cons, this]
    simp
theorem okY_n {l : List UInt8} (h : okY l = true) : yrI l = (dgN l : Nat) ∧ ∃ q, l = l.take (dgN l) ++ 45 :: q ∧ dgB (l.take (dgN l)) = true ∧ 4 ≤ dgN l ∧ dgN l ≤ 9 ∧ ¬ (4 < dgN l ∧ l.head? = some 48) := by
  unfold okY at h
  simp only [Bool.and_eq_true, decide_eq_true_eq] at h
  obtain ⟨⟨⟨h1, h2⟩, h3⟩, h4⟩ := h
  obtain ⟨k, hk⟩ : ∃ k : Nat, yrI l = k := ⟨(yrI l).toNat, by omega⟩
  rw [hk] at h1 h2 h3 h4
  rw [Int.toNat_natCast] at h3
  have hs := (Lib.indexByte_some (l := l) (c := 45) hk).1
  obtain ⟨hkl, hg⟩ := List.getElem?_eq_some_iff.1 hs
  have hsp : l = l.take k ++ 45 :: l.drop (k + 1) := by
    have := List.take_append_drop k l
    rw [List.drop_eq_getElem_cons hkl, hg] at this
    exact this.symm
  have hn : dgN l = k := by
    have h5 := dgN_app (q := 45 :: l.drop (k + 1)) h3 (fun c t e => by obtain ⟨rfl, _⟩ := List.cons.inj e; rfl)
    rw [← hsp, List.length_take] at h5
    omega
  rw [hn]
  refine ⟨hk, l.drop (k + 1), hsp, h3, by omega, by omega, ?_⟩
  rintro ⟨e1, e2⟩
  rw [decide_eq_true (show (4 : Int) < k by omega), e2] at h4
  simp at h4
theorem okY_of {p q : List UInt8} (h : dgB p = true) (h4 : 4 ≤ p.length) (h9 : p.length ≤ 9) (hz : ¬ (4 < p.length ∧ (p ++ 45 :: q).head? = some 48)) : okY (p ++ 45 :: q) = true ∧ yrI (p ++ 45 :: q) = p.length := by
  have hy : yrI (p ++ 45 :: q) = p.length := idx_app h
  refine ⟨?_, hy⟩
  unfold okY
  rw [hy, Int.toNat_natCast, List.take_left, h, decide_eq_true (by omega), decide_eq_true (by omega)]
  by_cases e : 4 < p.length
  · have : ¬ (p ++ 45 :: q).head? = some 48 := fun e2 => hz ⟨e, e2⟩
    rw [decide_eq_false this]; simp
  · rw [decide_eq_false (by omega)]; rfl
theorem rdY_no {s : List UInt8} (h : okY (ngR s) = false) : rdY s = none := by unfold rdY; rw [h]; rfl
/-- What stands behind the year. -/
def rdM (Y : Int) (q : List UInt8) : Option (Int × Int × Int × List UInt8) :=
  match twoP q [45] with
  | none => none
  | some (m, r) => if m < 1 ∨ 12 < m then none else
    match twoP r [] with
    | none => none
    | some (d, e) => if d < 1 ∨ mdP Y m < d then none else some (Y, m, d, e)
theorem rdY_yes {s p q : List UInt8} (hl : ngR s = p ++ 45 :: q) (h : dgB p = true) (h4 : 4 ≤ p.length) (h9 : p.length ≤ 9) (hz : ¬ (4 < p.length ∧ (ngR s).head? = some 48)) :
    rdY s = rdM (if ngB s = true then -(numN p : Int) else numN p) q := by
  rw [hl] at hz
  obtain ⟨h1, h2⟩ := okY_of h h4 h9 hz
  unfold rdY rdM
  have hy : yrZ s = if ngB s = true then -(numN p : Int) else numN p := by unfold yrZ; rw [hl, h2, Int.toNat_natCast, List.take_left]
  have hd : (p ++ 45 :: q).drop (p.length + 1) = q := by rw [List.drop_append]; simp
  rw [hl, h1, if_pos rfl, h2, Int.toNat_natCast, hd, hy]
  rfl
theorem rdM_len {Y : Int} {q : List UInt8} (h : q.length < 5) : rdM Y q = none := by
  unfold rdM
  cases h1 : twoP q [45] with
  | none => rfl
  | some x =>
    obtain ⟨m, r⟩ := x
    dsimp only
    split
    · rfl
    · cases h2 : twoP r [] with
      | none => rfl
      | some y =>
        exfalso
        obtain ⟨d, e⟩ := y
        obtain ⟨a, b, u, rfl, _, hp, _, rfl⟩ := twoP_some h1
        obtain ⟨q2, rfl⟩ := pre_58 hp
        obtain ⟨a2, b2, u2, hq, _, _, _, hu⟩ := twoP_some h2
        simp at hq
        rw [hq] at h
        simp at h
        omega
theorem btw_dm {a b : UInt8} {u : List UInt8} {hi : Int} (hh : hi ≤ 98) : btw (a :: b :: u) 1 hi = if dgB [a, b] = true ∧ 1 ≤ tw8 (a :: b :: u) ∧ tw8 (a :: b :: u) ≤ hi then tw8 (a :: b :: u) else -1 := by
  unfold btw
  cases d : dgB [a, b] with
  | false => rw [tw8_no d, if_pos (by omega), if_neg (by simp)]
  | true =>
    by_cases h : tw8 (a :: b :: u) < 1 ∨ hi < tw8 (a :: b :: u)
    · rw [if_pos h, if_neg (by rintro ⟨_, h1, h2⟩; omega)]
    · rw [if_neg h, if_pos ⟨rfl, by omega, by omega⟩]
theorem rdM_five {Y : Int} {a b c d e : UInt8} {r : List UInt8} : rdM Y (a :: b :: c :: d :: e :: r) = if c = 45 ∧ 0 < btw (a :: b :: c :: d :: e :: r) 1 12 ∧ 0 < btw (d :: e :: r) 1 (mdP Y (btw (a :: b :: c :: d :: e :: r) 1 12))
    then some (Y, btw (a :: b :: c :: d :: e :: r) 1 12, btw (d :: e :: r) 1 (mdP Y (btw (a :: b :: c :: d :: e :: r) 1 12)), r) else none := by
  unfold rdM
  rw [twoP_of]
  by_cases hc : c = 45
  · subst hc
    rw [pre_one 45 _, Bool.and_true]
    have hb := btw_dm (a := a) (b := b) (u := 45 :: d :: e :: r) (hi := 12) (by omega)
    cases d1 : dgB [a, b] with
    | false =>
      rw [d1] at hb
      rw [if_neg (by simp)]
      rw [if_neg (by simp)] at hb
      dsimp only
      rw [hb, if_neg (by rintro ⟨_, h, _⟩; omega)]
    | true =>
      rw [d1] at hb
      rw [if_pos rfl]
      dsimp only
      rw [show List.drop [(45 : UInt8)].length (45 :: d :: e :: r) = d :: e :: r from rfl, twoP_of, pre_nil, Bool.and_true]
      generalize tw8 (a :: b :: 45 :: d :: e :: r) = m at *
      by_cases hm : m < 1 ∨ 12 < m
      · rw [if_neg (by rintro ⟨_, h⟩; omega)] at hb
        rw [if_pos hm, hb, if_neg (by rintro ⟨_, h, _⟩; omega)]
      · rw [if_pos ⟨rfl, by omega, by omega⟩] at hb
        rw [if_neg hm, hb]
        have hmd := mdP_bd Y m
        have hd := btw_dm (a := d) (b := e) (u := r) (hi := mdP Y m) (by omega)
        cases d2 : dgB [d, e] with
        | false =>
          rw [d2, if_neg (by simp)] at hd
          rw [if_neg (by simp)]
          dsimp only
          rw [hd, if_neg (by rintro ⟨_, _, h⟩; omega)]
        | true =>
          rw [d2] at hd
          rw [if_pos rfl]
          dsimp only
          generalize tw8 (d :: e :: r) = v at *
          by_cases hv : v < 1 ∨ mdP Y m < v
          · rw [if_neg (by rintro ⟨_, h⟩; omega)] at hd
            rw [if_pos hv, hd, if_neg (by rintro ⟨_, _, h⟩; omega)]
          · rw [if_pos ⟨rfl, by omega, by omega⟩] at hd
            rw [if_neg hv, hd, if_pos ⟨rfl, by omega, by omega⟩]
            rfl
  · rw [show Lib.hasPrefix (c :: d :: e :: r) [45] = false from pre_no _ hc, Bool.and_false, if_neg (by simp)]
    dsimp only
    rw [if_neg (fun h => hc h.1)]
theorem btw_rng (l : List UInt8) (lo hi : Int) (h : 1 ≤ lo) : btw l lo hi < 0 ∨ 1 ≤ btw l lo hi ∧ btw l lo hi ≤ hi := by
  unfold btw
  split
  · left; omega
  · right; omega
end Go.Tk
namespace Go.Proofs.YtlhcejbimlilaaaGreatDoor
open Go.RowKit Go.Tk
def DaPost (l : List UInt8) (g : Nat) (m : Mo8) (w : World) (e : Ending) (w' : World) : Prop :=
  ∃ (R : ByteArray) (y mo d : Int), e = .returned (.tuple #[.string R, .bool (rdY l).isSome]) ∧ MoAt w' g { m with y := y, mo := mo, d := d } ∧ Below g w w' ∧ ∀ x, rdY l = some x → (y, mo, d, R.data.toList) = x
theorem da_none {l : List UInt8} {g : Nat} {m : Mo8} {w w' : World} {e : Ending} (hn : rdY l = none) (y mo d : Int) (h1 : e = .returned (.tuple #[.string ⟨#[]⟩, .bool false])) (h2 : MoAt w' g { m with y := y, mo := mo, d := d }) (h3 : Below g w w') : DaPost l g m w e w' :=
  ⟨⟨#[]⟩, y, mo, d, by rw [hn]; exact h1, h2, h3, fun x hx => by rw [hn] at hx; cases hx⟩
theorem da_joinp (w : World) (g : Nat) (m : Mo8) (s : ByteArray) (hs : s.size ≤ 65536) (h0 : 0 < s.size) (he : (s.toList == []) = false) (hc0 : (((s[0]).toNat : Nat) : Int) ≠ 45) (hg : ngR s.data.toList = s.data.toList) (hb : ngB s.data.toList = false) (hr : MoAt w g m) :
    Calls Tryz.prog 90 #[.pointer (some ⟨g, 0, none⟩), .string s] w (DaPost s.data.toList g m w) := by
  have hSs : s.size ≤ 4000000000 := by omega
  have hLs : s.data.toList.length = s.size := (Lib.size_eq s).symm
  have hrn := fun w => rrun_calls s w (by omega)
  have hnle := dgN_le8 s.data.toList
  obtain ⟨n, hn⟩ : ∃ n, n = dgN s.data.toList := ⟨_, rfl⟩
  rw [← hn] at hrn hnle
  rw [hLs] at hnle
  have no : ¬ (4 ≤ n ∧ n ≤ 9 ∧ ¬ (4 < n ∧ s.data.toList.head? = some 48)) → rdY s.data.toList = none := fun h => by
    apply rdY_no
    rw [hg]
    cases ho : okY s.data.toList with
    | false => rfl
    | true =>
      obtain ⟨_, q, _, _, e1, e2, e3⟩ := okY_n ho
      rw [← hn] at e1 e2 e3
      exact absurd ⟨e1, e2, e3⟩ h
  have keep : ∀ {e w'}, (e = Ending.returned (.tuple #[.string ⟨#[]⟩, .bool false]) ∧ w = w') → rdY s.data.toList = none → DaPost s.data.toList g m w e w' := fun {e w'} h hN => by
    obtain ⟨h1, rfl⟩ := h
    exact da_none hN m.y m.mo m.d h1 hr (Below.refl _ _)
  by_cases b4 : n < 4
  · exact (da_lop w g m s (by omega) h0 he hc0 n hrn (by omega) hr).mono fun e w' h => keep h (no (by omega))
  by_cases b9 : 9 < n
  · exact (da_hip w g m s (by omega) h0 he hc0 n hrn (by omega) (by omega) hr).mono fun e w' h => keep h (no (by omega))
  have k0 : 0 < s.size := by omega
  have hhd : s.data.toList.head? = some (s[0]) := by rw [ba_cons s k0]; rfl
  by_cases bz : 4 < n ∧ s[0] = 48
  · exact (da_zp w g m s (by omega) h0 he hc0 n hrn k0 (by omega) (by omega) (by omega) (by rw [bz.2]; rfl) hr).mono fun e w' h => keep h (no (fun q => q.2.2 ⟨bz.1, by rw [hhd, bz.2]⟩))
  obtain ⟨P, hP⟩ : ∃ P, s.extract 0 n = P := ⟨_, rfl⟩
  obtain ⟨S2, hS2⟩ : ∃ P, s.extract n s.size = P := ⟨_, rfl⟩
  have hPd : P.data.toList = s.data.toList.take n := by rw [← hP, ex_take]
  have hS2d : S2.data.toList = s.data.toList.drop n := by rw [← hS2, ex_drop]
  have hS2s : S2.size = s.size - n := by rw [Lib.size_eq, hS2d, List.length_drop, hLs]
  have hPl : P.data.toList.length = n := by rw [hPd, List.length_take, hLs]; omega
  have hdP : dgB P.data.toList = true := by
    rw [hPd, hn]; exact (dec_scan s.data.toList).1
  have hPne : P.data.toList ≠ [] := fun e => by rw [e] at hPl; simp at hPl; omega
  have hsP := sg_dg false hPne hdP
  have hsP1 : sgnR P.data.toList = P.data.toList := hsP.1
  have hsP2 : sgnB P.data.toList = false := hsP.2
  have hsm := fun w => rsmall_calls P w (by rw [hsP1]; exact hdP) (by rw [hsP1, hPl]; omega)
  have hexp : expZ P.data.toList = (numN P.data.toList : Nat) := by unfold expZ; rw [hsP1, hsP2]; rfl
  rw [hexp] at hsm
  have hYl := numN_lt _ hdP (by rw [hPl]; omega)
  obtain ⟨Y, hY⟩ : ∃ Y : Int, Y = (numN P.data.toList : Nat) := ⟨_, rfl⟩
  rw [← hY] at hsm
  have hsplit : s.data.toList = P.data.toList ++ S2.data.toList := by rw [hPd, hS2d, List.take_append_drop]
  have hz48 : ¬ (4 < P.data.toList.length ∧ (ngR s.data.toList).head? = some 48) := by
    rw [hPl, hg, hhd]
    rintro ⟨q1, q2⟩
    exact bz ⟨q1, Option.some.inj q2⟩
  have yes : ∀ q, S2.data.toList = 45 :: q → rdY s.data.toList = rdM Y q := fun q hq => by
    rw [hq] at hsplit
    rw [rdY_yes (hg.trans hsplit) hdP (by omega) (by omega) hz48, hb, hY]
    rfl
  have hs2b : S2.size ≤ 4000000000 := by omega
  by_cases l6 : S2.size < 6
  · have hN : rdY s.data.toList = none := by
      by_cases hq : ∃ q, S2.data.toList = 45 :: q
      · obtain ⟨q, hq⟩ := hq
        rw [yes q hq]
        apply rdM_len
        have := congrArg List.length hq
        rw [← Lib.size_eq, List.length_cons] at this
        omega
      · apply rdY_no
        rw [hg]
        cases ho : okY s.data.toList with
        | false => rfl
        | true =>
          exfalso
          obtain ⟨_, q, e, _⟩ := okY_n ho
          rw [← hn, ← hPd] at e
          rw [hsplit] at e
          exact hq ⟨q, List.append_cancel_left e⟩
    by_cases n5 : n ≤ 4
    · exact (da_lpa w g m s (by omega) h0 he hc0 n hrn (by omega) (by omega) (by omega) hnle P S2 hP hS2 hs2b Y hsm  (by omega) hr).mono fun e w' h => da_none hN Y m.mo m.d h.1 h.2.1 h.2.2
    · exact (da_lpb w g m s (by omega) h0 he hc0 n hrn (by omega) (by omega) k0 (by omega) (fun e => bz ⟨by omega, UInt8.toNat.inj (by have : (48 : UInt8).toNat = 48 := rfl; omega)⟩) hnle P S2 hP hS2 hs2b Y hsm  (by omega) hr).mono fun e w' h => da_none hN Y m.mo m.d h.1 h.2.1 h.2.2
  have l0 : 0 < S2.size := by omega
  have l3 : 3 < S2.size := by omega
  obtain ⟨z, a, b, c, d, e', r, hL⟩ : ∃ z a b c d e' r, S2.data.toList = z :: a :: b :: c :: d :: e' :: r := by
    have hl : S2.data.toList.length = S2.size := (Lib.size_eq S2).symm
    match h : S2.data.toList, hl with
    | [], hl => simp at hl; omega
    | [_], hl => simp at hl; omega
    | [_, _], hl => simp at hl; omega
    | [_, _, _], hl => simp at hl; omega
    | [_, _, _, _], hl => simp at hl; omega
    | [_, _, _, _, _], hl => simp at hl; omega
    | z :: a :: b :: c :: d :: e' :: r, _ => exact ⟨z, a, b, c, d, e', r, rfl⟩
  have e0 : S2[0] = z := by rw [← ba_get S2 0 l0]; simp [hL]
  have e3 : S2[3] = c := by rw [← ba_get S2 3 l3]; simp [hL]
  have t45 : (45 : UInt8).toNat = 45 := rfl
  by_cases q0 : (((S2[0]).toNat : Nat) : Int) = 45
  · have hz : z = 45 := by rw [← e0]; exact UInt8.toNat.inj (by omega)
    subst hz
    have hM := yes _ hL
    rw [rdM_five] at hM
    by_cases q3 : (((S2[3]).toNat : Nat) : Int) = 45
    · have hc : c = 45 := by rw [← e3]; exact UInt8.toNat.inj (by omega)
      obtain ⟨AQ, hAQ⟩ : ∃ P, S2.extract 1 S2.size = P := ⟨_, rfl⟩
      have hAQd : AQ.data.toList = a :: b :: c :: d :: e' :: r := by rw [← hAQ, ex_drop, hL]; rfl
      have hAQs : AQ.size ≤ 4000000000 := by rw [Lib.size_eq, hAQd]; have := congrArg List.length hL; rw [← Lib.size_eq] at this; simp at this ⊢; omega
      have hB := fun w => rbetween_calls AQ 1 12 w hAQs
      rw [hAQd] at hB
      have hMr := btw_rng (a :: b :: c :: d :: e' :: r) 1 12 (by omega)
      obtain ⟨M, hMd⟩ : ∃ M, M = btw (a :: b :: c :: d :: e' :: r) 1 12 := ⟨_, rfl⟩
      rw [← hMd] at hB hMr hM
      by_cases m0 : M < 0
      · have hN : rdY s.data.toList = none := by rw [hM, if_neg (by rintro ⟨_, h, _⟩; omega)]
        by_cases n5 : n ≤ 4
        · exact (da_mpa w g m s (by omega) h0 he hc0 n hrn (by omega) (by omega) (by omega) hnle P S2 hP hS2 hs2b Y hsm  l0 l3 (by omega) q0 q3 AQ hAQ M hB m0 hr).mono fun e w' h => da_none hN Y M m.d h.1 h.2.1 h.2.2
        · exact (da_mpb w g m s (by omega) h0 he hc0 n hrn (by omega) (by omega) k0 (by omega) (fun e => bz ⟨by omega, UInt8.toNat.inj (by have : (48 : UInt8).toNat = 48 := rfl; omega)⟩) hnle P S2 hP hS2 hs2b Y hsm  l0 l3 (by omega) q0 q3 AQ hAQ M hB m0 hr).mono fun e w' h => da_none hN Y M m.d h.1 h.2.1 h.2.2
      · have hdy := fun w => rdays_calls Y M w (by omega) (by omega) (by omega) (by omega)
        obtain ⟨DQ, hDQ⟩ : ∃ P, S2.extract 4 S2.size = P := ⟨_, rfl⟩
        obtain ⟨RQ, hRQ⟩ : ∃ P, S2.extract 6 S2.size = P := ⟨_, rfl⟩
        have hDQd : DQ.data.toList = d :: e' :: r := by rw [← hDQ, ex_drop, hL]; rfl
        have hRQd : RQ.data.toList = r := by rw [← hRQ, ex_drop, hL]; rfl
        have hDQs : DQ.size ≤ 4000000000 := by rw [Lib.size_eq, hDQd]; have := congrArg List.length hL; rw [← Lib.size_eq] at this; simp at this ⊢; omega
        have hD := fun w => rbetween_calls DQ 1 (mdP Y M) w hDQs
        rw [hDQd] at hD
        have hDr := btw_rng (d :: e' :: r) 1 (mdP Y M) (by omega)
        obtain ⟨D, hDd⟩ : ∃ v, v = btw (d :: e' :: r) 1 (mdP Y M) := ⟨_, rfl⟩
        rw [← hDd] at hD hDr hM
        have fin : ∀ {e w'}, (e = Ending.returned (.tuple #[.string RQ, .bool (decide (0 < D))]) ∧ MoAt w' g { m with y := Y, mo := M, d := D } ∧ Below g w w') → DaPost s.data.toList g m w e w' := fun {e w'} h => by
          by_cases dp : 0 < D
          · have hN := hM
            rw [if_pos ⟨hc, by omega, dp⟩] at hN
            refine ⟨RQ, Y, M, D, by rw [hN, h.1, decide_eq_true dp]; rfl, h.2.1, h.2.2, fun x hx => ?_⟩
            rw [hN] at hx
            rw [hRQd]
            exact Option.some.inj hx
          · have hN := hM
            rw [if_neg (fun h => dp h.2.2)] at hN
            refine ⟨RQ, Y, M, D, by rw [hN, h.1, decide_eq_false dp]; rfl, h.2.1, h.2.2, fun x hx => ?_⟩
            rw [hN] at hx; cases hx
        by_cases n5 : n ≤ 4
        · exact (da_kpa w g m s (by omega) h0 he hc0 n hrn (by omega) (by omega) (by omega) hnle P S2 hP hS2 hs2b Y hsm  l0 l3 (by omega) q0 q3 AQ hAQ M hB (by omega) DQ RQ hDQ hRQ (mdP Y M) D hdy hD hr).mono fun e w' h => fin h
        · exact (da_kpb w g m s (by omega) h0 he hc0 n hrn (by omega) (by omega) k0 (by omega) (fun e => bz ⟨by omega, UInt8.toNat.inj (by have : (48 : UInt8).toNat = 48 := rfl; omega)⟩) hnle P S2 hP hS2 hs2b Y hsm  l0 l3 (by omega) q0 q3 AQ hAQ M hB (by omega) DQ RQ hDQ hRQ (mdP Y M) D hdy hD hr).mono fun e w' h => fin h
    · have hN : rdY s.data.toList = none := by rw [hM, if_neg (fun h => q3 (by rw [e3, h.1]; rfl))]
      by_cases n5 : n ≤ 4
      · exact (da_dpa w g m s (by omega) h0 he hc0 n hrn (by omega) (by omega) (by omega) hnle P S2 hP hS2 hs2b Y hsm  l0 l3 (by omega) q0 q3 hr).mono fun e w' h => da_none hN Y m.mo m.d h.1 h.2.1 h.2.2
      · exact (da_dpb w g m s (by omega) h0 he hc0 n hrn (by omega) (by omega) k0 (by omega) (fun e => bz ⟨by omega, UInt8.toNat.inj (by have : (48 : UInt8).toNat = 48 := rfl; omega)⟩) hnle P S2 hP hS2 hs2b Y hsm  l0 l3 (by omega) q0 q3 hr).mono fun e w' h => da_none hN Y m.mo m.d h.1 h.2.1 h.2.2
  · have hN : rdY s.data.toList = none := by
      apply rdY_no
      rw [hg]
      cases ho : okY s.data.toList with
      | false => rfl
      | true =>
        exfalso
        obtain ⟨_, q, e, _⟩ := okY_n ho
        rw [← hn, ← hPd] at e
        rw [hsplit] at e
        have e2 := List.append_cancel_left e
        rw [hL] at e2
        obtain ⟨rfl, _⟩ := List.cons.inj e2
        exact q0 (by rw [e0]; rfl)
    by_cases n5 : n ≤ 4
    · exact (da_cpa w g m s (by omega) h0 he hc0 n hrn (by omega) (by omega) (by omega) hnle P S2 hP hS2 hs2b Y hsm  l0 l3 (by omega) q0 hr).mono fun e w' h => da_none hN Y m.mo m.d h.1 h.2.1 h.2.2
    · exact (da_cpb w g m s (by omega) h0 he hc0 n hrn (by omega) (by omega) k0 (by omega) (fun e => bz ⟨by omega, UInt8.toNat.inj (by have : (48 : UInt8).toNat = 48 := rfl; omega)⟩) hnle P S2 hP hS2 hs2b Y hsm  l0 l3 (by omega) q0 hr).mono fun e w' h => da_none hN Y m.mo m.d h.1 h.2.1 h.2.2
theorem da_joinm (w : World) (g : Nat) (m : Mo8) (s : ByteArray) (hs : s.size ≤ 65536) (h0 : 0 < s.size) (he : (s.toList == []) = false) (hc0 : (((s[0]).toNat : Nat) : Int) = 45) (S1 : ByteArray) (hS1 : s.extract 1 s.size = S1) (hss : S1.size ≤ 4000000000) (hg : ngR s.data.toList = S1.data.toList) (hb : ngB s.data.toList = true) (hr : MoAt w g m) :
    Calls Tryz.prog 90 #[.pointer (some ⟨g, 0, none⟩), .string s] w (DaPost s.data.toList g m w) := by
  have hSs : S1.size ≤ 4000000000 := by omega
  have hLs : S1.data.toList.length = S1.size := (Lib.size_eq S1).symm
  have hrn := fun w => rrun_calls S1 w (by omega)
  have hnle := dgN_le8 S1.data.toList
  obtain ⟨n, hn⟩ : ∃ n, n = dgN S1.data.toList := ⟨_, rfl⟩
  rw [← hn] at hrn hnle
  rw [hLs] at hnle
  have no : ¬ (4 ≤ n ∧ n ≤ 9 ∧ ¬ (4 < n ∧ S1.data.toList.head? = some 48)) → rdY s.data.toList = none := fun h => by
    apply rdY_no
    rw [hg]
    cases ho : okY S1.data.toList with
    | false => rfl
    | true =>
      obtain ⟨_, q, _, _, e1, e2, e3⟩ := okY_n ho
      rw [← hn] at e1 e2 e3
      exact absurd ⟨e1, e2, e3⟩ h
  have keep : ∀ {e w'}, (e = Ending.returned (.tuple #[.string ⟨#[]⟩, .bool false]) ∧ w = w') → rdY s.data.toList = none → DaPost s.data.toList g m w e w' := fun {e w'} h hN => by
    obtain ⟨h1, rfl⟩ := h
    exact da_none hN m.y m.mo m.d h1 hr (Below.refl _ _)
  by_cases b4 : n < 4
  · exact (da_lom w g m s (by omega) h0 he hc0 S1 hS1 hss n hrn (by omega) hr).mono fun e w' h => keep h (no (by omega))
  by_cases b9 : 9 < n
  · exact (da_him w g m s (by omega) h0 he hc0 S1 hS1 hss n hrn (by omega) (by omega) hr).mono fun e w' h => keep h (no (by omega))
  have k0 : 0 < S1.size := by omega
  have hhd : S1.data.toList.head? = some (S1[0]) := by rw [ba_cons S1 k0]; rfl
  by_cases bz : 4 < n ∧ S1[0] = 48
  · exact (da_zm w g m s (by omega) h0 he hc0 S1 hS1 hss n hrn k0 (by omega) (by omega) (by omega) (by rw [bz.2]; rfl) hr).mono fun e w' h => keep h (no (fun q => q.2.2 ⟨bz.1, by rw [hhd, bz.2]⟩))
  obtain ⟨P, hP⟩ : ∃ P, S1.extract 0 n = P := ⟨_, rfl⟩
  obtain ⟨S2, hS2⟩ : ∃ P, S1.extract n S1.size = P := ⟨_, rfl⟩
  have hPd : P.data.toList = S1.data.toList.take n := by rw [← hP, ex_take]
  have hS2d : S2.data.toList = S1.data.toList.drop n := by rw [← hS2, ex_drop]
  have hS2s : S2.size = S1.size - n := by rw [Lib.size_eq, hS2d, List.length_drop, hLs]
  have hPl : P.data.toList.length = n := by rw [hPd, List.length_take, hLs]; omega
  have hdP : dgB P.data.toList = true := by
    rw [hPd, hn]; exact (dec_scan S1.data.toList).1
  have hPne : P.data.toList ≠ [] := fun e => by rw [e] at hPl; simp at hPl; omega
  have hsP := sg_dg false hPne hdP
  have hsP1 : sgnR P.data.toList = P.data.toList := hsP.1
  have hsP2 : sgnB P.data.toList = false := hsP.2
  have hsm := fun w => rsmall_calls P w (by rw [hsP1]; exact hdP) (by rw [hsP1, hPl]; omega)
  have hexp : expZ P.data.toList = (numN P.data.toList : Nat) := by unfold expZ; rw [hsP1, hsP2]; rfl
  rw [hexp] at hsm
  have hYl := numN_lt _ hdP (by rw [hPl]; omega)
  obtain ⟨Y, hY⟩ : ∃ Y : Int, Y = (numN P.data.toList : Nat) := ⟨_, rfl⟩
  rw [← hY] at hsm
  have hsplit : S1.data.toList = P.data.toList ++ S2.data.toList := by rw [hPd, hS2d, List.take_append_drop]
  have hz48 : ¬ (4 < P.data.toList.length ∧ (ngR s.data.toList).head? = some 48) := by
    rw [hPl, hg, hhd]
    rintro ⟨q1, q2⟩
    exact bz ⟨q1, Option.some.inj q2⟩
  have yes : ∀ q, S2.data.toList = 45 :: q → rdY s.data.toList = rdM (-Y) q := fun q hq => by
    rw [hq] at hsplit
    rw [rdY_yes (hg.trans hsplit) hdP (by omega) (by omega) hz48, hb, hY]
    rfl
  have hs2b : S2.size ≤ 4000000000 := by omega
  by_cases l6 : S2.size < 6
  · have hN : rdY s.data.toList = none := by
      by_cases hq : ∃ q, S2.data.toList = 45 :: q
      · obtain ⟨q, hq⟩ := hq
        rw [yes q hq]
        apply rdM_len
        have := congrArg List.length hq
        rw [← Lib.size_eq, List.length_cons] at this
        omega
      · apply rdY_no
        rw [hg]
        cases ho : okY S1.data.toList with
        | false => rfl
        | true =>
          exfalso
          obtain ⟨_, q, e, _⟩ := okY_n ho
          rw [← hn, ← hPd] at e
          rw [hsplit] at e
          exact hq ⟨q, List.append_cancel_left e⟩
    by_cases n5 : n ≤ 4
    · exact (da_lma w g m s (by omega) h0 he hc0 S1 hS1 hss n hrn (by omega) (by omega) (by omega) hnle P S2 hP hS2 hs2b Y hsm (by omega) (by omega) (by omega) hr).mono fun e w' h => da_none hN (-Y) m.mo m.d h.1 h.2.1 h.2.2
    · exact (da_lmb w g m s (by omega) h0 he hc0 S1 hS1 hss n hrn (by omega) (by omega) k0 (by omega) (fun e => bz ⟨by omega, UInt8.toNat.inj (by have : (48 : UInt8).toNat = 48 := rfl; omega)⟩) hnle P S2 hP hS2 hs2b Y hsm (by omega) (by omega) (by omega) hr).mono fun e w' h => da_none hN (-Y) m.mo m.d h.1 h.2.1 h.2.2
  have l0 : 0 < S2.size := by omega
  have l3 : 3 < S2.size := by omega
  obtain ⟨z, a, b, c, d, e', r, hL⟩ : ∃ z a b c d e' r, S2.data.toList = z :: a :: b :: c :: d :: e' :: r := by
    have hl : S2.data.toList.length = S2.size := (Lib.size_eq S2).symm
    match h : S2.data.toList, hl with
    | [], hl => simp at hl; omega
    | [_], hl => simp at hl; omega
    | [_, _], hl => simp at hl; omega
    | [_, _, _], hl => simp at hl; omega
    | [_, _, _, _], hl => simp at hl; omega
    | [_, _, _, _, _], hl => simp at hl; omega
    | z :: a :: b :: c :: d :: e' :: r, _ => exact ⟨z, a, b, c, d, e', r, rfl⟩
  have e0 : S2[0] = z := by rw [← ba_get S2 0 l0]; simp [hL]
  have e3 : S2[3] = c := by rw [← ba_get S2 3 l3]; simp [hL]
  have t45 : (45 : UInt8).toNat = 45 := rfl
  by_cases q0 : (((S2[0]).toNat : Nat) : Int) = 45
  · have hz : z = 45 := by rw [← e0]; exact UInt8.toNat.inj (by omega)
    subst hz
    have hM := yes _ hL
    rw [rdM_five] at hM
    by_cases q3 : (((S2[3]).toNat : Nat) : Int) = 45
    · have hc : c = 45 := by rw [← e3]; exact UInt8.toNat.inj (by omega)
      obtain ⟨AQ, hAQ⟩ : ∃ P, S2.extract 1 S2.size = P := ⟨_, rfl⟩
      have hAQd : AQ.data.toList = a :: b :: c :: d :: e' :: r := by rw [← hAQ, ex_drop, hL]; rfl
      have hAQs : AQ.size ≤ 4000000000 := by rw [Lib.size_eq, hAQd]; have := congrArg List.length hL; rw [← Lib.size_eq] at this; simp at this ⊢; omega
      have hB := fun w => rbetween_calls AQ 1 12 w hAQs
      rw [hAQd] at hB
      have hMr := btw_rng (a :: b :: c :: d :: e' :: r) 1 12 (by omega)
      obtain ⟨M, hMd⟩ : ∃ M, M = btw (a :: b :: c :: d :: e' :: r) 1 12 := ⟨_, rfl⟩
      rw [← hMd] at hB hMr hM
      by_cases m0 : M < 0
      · have hN : rdY s.data.toList = none := by rw [hM, if_neg (by rintro ⟨_, h, _⟩; omega)]
        by_cases n5 : n ≤ 4
        · exact (da_mma w g m s (by omega) h0 he hc0 S1 hS1 hss n hrn (by omega) (by omega) (by omega) hnle P S2 hP hS2 hs2b Y hsm (by omega) (by omega) l0 l3 (by omega) q0 q3 AQ hAQ M hB m0 hr).mono fun e w' h => da_none hN (-Y) M m.d h.1 h.2.1 h.2.2
        · exact (da_mmb w g m s (by omega) h0 he hc0 S1 hS1 hss n hrn (by omega) (by omega) k0 (by omega) (fun e => bz ⟨by omega, UInt8.toNat.inj (by have : (48 : UInt8).toNat = 48 := rfl; omega)⟩) hnle P S2 hP hS2 hs2b Y hsm (by omega) (by omega) l0 l3 (by omega) q0 q3 AQ hAQ M hB m0 hr).mono fun e w' h => da_none hN (-Y) M m.d h.1 h.2.1 h.2.2
      · have hdy := fun w => rdays_calls (-Y) M w (by omega) (by omega) (by omega) (by omega)
        obtain ⟨DQ, hDQ⟩ : ∃ P, S2.extract 4 S2.size = P := ⟨_, rfl⟩
        obtain ⟨RQ, hRQ⟩ : ∃ P, S2.extract 6 S2.size = P := ⟨_, rfl⟩
        have hDQd : DQ.data.toList = d :: e' :: r := by rw [← hDQ, ex_drop, hL]; rfl
        have hRQd : RQ.data.toList = r := by rw [← hRQ, ex_drop, hL]; rfl
        have hDQs : DQ.size ≤ 4000000000 := by rw [Lib.size_eq, hDQd]; have := congrArg List.length hL; rw [← Lib.size_eq] at this; simp at this ⊢; omega
        have hD := fun w => rbetween_calls DQ 1 (mdP (-Y) M) w hDQs
        rw [hDQd] at hD
        have hDr := btw_rng (d :: e' :: r) 1 (mdP (-Y) M) (by omega)
        obtain ⟨D, hDd⟩ : ∃ v, v = btw (d :: e' :: r) 1 (mdP (-Y) M) := ⟨_, rfl⟩
        rw [← hDd] at hD hDr hM
        have fin : ∀ {e w'}, (e = Ending.returned (.tuple #[.string RQ, .bool (decide (0 < D))]) ∧ MoAt w' g { m with y := (-Y), mo := M, d := D } ∧ Below g w w') → DaPost s.data.toList g m w e w' := fun {e w'} h => by
          by_cases dp : 0 < D
          · have hN := hM
            rw [if_pos ⟨hc, by omega, dp⟩] at hN
            refine ⟨RQ, (-Y), M, D, by rw [hN, h.1, decide_eq_true dp]; rfl, h.2.1, h.2.2, fun x hx => ?_⟩
            rw [hN] at hx
            rw [hRQd]
            exact Option.some.inj hx
          · have hN := hM
            rw [if_neg (fun h => dp h.2.2)] at hN
            refine ⟨RQ, (-Y), M, D, by rw [hN, h.1, decide_eq_false dp]; rfl, h.2.1, h.2.2, fun x hx => ?_⟩
            rw [hN] at hx; cases hx
        by_cases n5 : n ≤ 4
        · exact (da_kma w g m s (by omega) h0 he hc0 S1 hS1 hss n hrn (by omega) (by omega) (by omega) hnle P S2 hP hS2 hs2b Y hsm (by omega) (by omega) l0 l3 (by omega) q0 q3 AQ hAQ M hB (by omega) DQ RQ hDQ hRQ (mdP (-Y) M) D hdy hD hr).mono fun e w' h => fin h
        · exact (da_kmb w g m s (by omega) h0 he hc0 S1 hS1 hss n hrn (by omega) (by omega) k0 (by omega) (fun e => bz ⟨by omega, UInt8.toNat.inj (by have : (48 : UInt8).toNat = 48 := rfl; omega)⟩) hnle P S2 hP hS2 hs2b Y hsm (by omega) (by omega) l0 l3 (by omega) q0 q3 AQ hAQ M hB (by omega) DQ RQ hDQ hRQ (mdP (-Y) M) D hdy hD hr).mono fun e w' h => fin h
    · have hN : rdY s.data.toList = none := by rw [hM, if_neg (fun h => q3 (by rw [e3, h.1]; rfl))]
      by_cases n5 : n ≤ 4
      · exact (da_dma w g m s (by omega) h0 he hc0 S1 hS1 hss n hrn (by omega) (by omega) (by omega) hnle P S2 hP hS2 hs2b Y hsm (by omega) (by omega) l0 l3 (by omega) q0 q3 hr).mono fun e w' h => da_none hN (-Y) m.mo m.d h.1 h.2.1 h.2.2
      · exact (da_dmb w g m s (by omega) h0 he hc0 S1 hS1 hss n hrn (by omega) (by omega) k0 (by omega) (fun e => bz ⟨by omega, UInt8.toNat.inj (by have : (48 : UInt8).toNat = 48 := rfl; omega)⟩) hnle P S2 hP hS2 hs2b Y hsm (by omega) (by omega) l0 l3 (by omega) q0 q3 hr).mono fun e w' h => da_none hN (-Y) m.mo m.d h.1 h.2.1 h.2.2
  · have hN : rdY s.data.toList = none := by
      apply rdY_no
      rw [hg]
      cases ho : okY S1.data.toList with
      | false => rfl
      | true =>
        exfalso
        obtain ⟨_, q, e, _⟩ := okY_n ho
        rw [← hn, ← hPd] at e
        rw [hsplit] at e
        have e2 := List.append_cancel_left e
        rw [hL] at e2
        obtain ⟨rfl, _⟩ := List.cons.inj e2
        exact q0 (by rw [e0]; rfl)
    by_cases n5 : n ≤ 4
    · exact (da_cma w g m s (by omega) h0 he hc0 S1 hS1 hss n hrn (by omega) (by omega) (by omega) hnle P S2 hP hS2 hs2b Y hsm (by omega) (by omega) l0 l3 (by omega) q0 hr).mono fun e w' h => da_none hN (-Y) m.mo m.d h.1 h.2.1 h.2.2
    · exact (da_cmb w g m s (by omega) h0 he hc0 S1 hS1 hss n hrn (by omega) (by omega) k0 (by omega) (fun e => bz ⟨by omega, UInt8.toNat.inj (by have : (48 : UInt8).toNat = 48 := rfl; omega)⟩) hnle P S2 hP hS2 hs2b Y hsm (by omega) (by omega) l0 l3 (by omega) q0 hr).mono fun e w' h => da_none hN (-Y) m.mo m.d h.1 h.2.1 h.2.2
/-- The document's date. -/
theorem rdate_calls (w : World) (g : Nat) (m : Mo8) (s : ByteArray) (hs : s.size ≤ 65536) (hr : MoAt w g m) :
    Calls Tryz.prog 90 #[.pointer (some ⟨g, 0, none⟩), .string s] w (DaPost s.data.toList g m w) := by
  by_cases h0 : 0 < s.size
  · have hne : s.data.toList ≠ [] := fun e => by rw [Lib.size_eq, e] at h0; simp at h0
    have he : (s.toList == []) = false := by rw [Lib.toList_data]; exact beq_false_of_ne hne
    have hcs := ba_cons s h0
    have t45 : (45 : UInt8).toNat = 45 := rfl
    by_cases hc : (((s[0]).toNat : Nat) : Int) = 45
    · have hc' : s[0] = 45 := UInt8.toNat.inj (by omega)
      obtain ⟨S1, hS1⟩ : ∃ P, s.extract 1 s.size = P := ⟨_, rfl⟩
      have hS1d : S1.data.toList = s.data.toList.drop 1 := by rw [← hS1, ex_drop]
      have hS1s : S1.size ≤ s.size := by rw [Lib.size_eq, hS1d, List.length_drop, Lib.size_eq]; omega
      have hng : ngB s.data.toList = true := by rw [hcs, hc']; exact pre_one 45 _
      refine da_joinm w g m s hs h0 he hc S1 hS1 (by omega) ?_ hng hr
      have hng2 : Lib.hasPrefix s.data.toList [45] = true := hng
      unfold ngR Lib.trimPrefix
      rw [hng2, if_pos rfl, hS1d]; rfl
    · have hc' : s[0] ≠ 45 := fun e => hc (by rw [e]; rfl)
      have hng : Lib.hasPrefix s.data.toList [45] = false := by rw [hcs]; exact pre_no _ hc'
      refine da_joinp w g m s hs h0 he hc ?_ hng hr
      unfold ngR Lib.trimPrefix
      rw [hng, if_neg (by simp)]
  · have hn : s.data.toList = [] := ba_nil s h0
    have hrn := fun w => rrun_calls s w (by omega)
    rw [hn] at hrn
    have hN : rdY s.data.toList = none := by rw [hn]; rfl
    refine (da_loe w g m s (by omega) (by rw [Lib.toList_data, hn]; rfl) 0 hrn (by omega) hr).mono fun e w' h => ?_
    obtain ⟨h1, rfl⟩ := h
    exact da_none hN m.y m.mo m.d h1 hr (Below.refl _ _)
end Go.Proofs.YtlhcejbimlilaaaGreatDoor
