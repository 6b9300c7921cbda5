/- The document's double. -/
import Derived.Test.YtlhcejbimlilaaaGreatDoorVaW
import Derived.Test.YtlhcejbimlilaaaGreatDoorVcC
set_option linter.unusedVariables false
set_option linter.unusedSimpArgs false
namespace Go.Proofs.YtlhcejbimlilaaaGreatDoor
open Go.RowKit Go.Tk
theorem rb_nan (w : World) : Calls Tryz.prog 73 #[.string ⟨#[78, 97, 78]⟩] w fun e' w' => e' = .returned (.tuple #[.agg #[.bool true, .bool false, .bool false, .string ⟨#[]⟩, .int .i64 0], .bool true]) ∧ Below w.heap.size w w' := by
  go_enter Tryz.func73, Tryz.ntmps73
  go_wp2_with fail
  refine bodyPost_ret (v := .tuple #[.agg #[.bool true, .bool false, .bool false, .string ⟨#[]⟩, .int .i64 0], .bool true]) (by simp [results, Tryz.results73, go_sem]) rfl ⟨rfl, ?_⟩
  repeat (first | with_reducible exact Below.refl _ _ | with_reducible refine below_drewN ?_ _ | (with_reducible refine Below.setCell ?_ (by simp) _) | (with_reducible refine Below.alloc ?_ (by simp) _))
theorem rb_inf (w : World) : Calls Tryz.prog 73 #[.string ⟨#[73, 78, 70]⟩] w fun e' w' => e' = .returned (.tuple #[.agg #[.bool false, .bool true, .bool false, .string ⟨#[]⟩, .int .i64 0], .bool true]) ∧ Below w.heap.size w w' := by
  go_enter Tryz.func73, Tryz.ntmps73
  go_wp2_with fail
  refine bodyPost_ret (v := .tuple #[.agg #[.bool false, .bool true, .bool false, .string ⟨#[]⟩, .int .i64 0], .bool true]) (by simp [results, Tryz.results73, go_sem]) rfl ⟨rfl, ?_⟩
  repeat (first | with_reducible exact Below.refl _ _ | with_reducible refine below_drewN ?_ _ | (with_reducible refine Below.setCell ?_ (by simp) _) | (with_reducible refine Below.alloc ?_ (by simp) _))
theorem rb_pinf (w : World) : Calls Tryz.prog 73 #[.string ⟨#[43, 73, 78, 70]⟩] w fun e' w' => e' = .returned (.tuple #[.agg #[.bool false, .bool true, .bool false, .string ⟨#[]⟩, .int .i64 0], .bool true]) ∧ Below w.heap.size w w' := by
  go_enter Tryz.func73, Tryz.ntmps73
  go_wp2_with fail
  refine bodyPost_ret (v := .tuple #[.agg #[.bool false, .bool true, .bool false, .string ⟨#[]⟩, .int .i64 0], .bool true]) (by simp [results, Tryz.results73, go_sem]) rfl ⟨rfl, ?_⟩
  repeat (first | with_reducible exact Below.refl _ _ | with_reducible refine below_drewN ?_ _ | (with_reducible refine Below.setCell ?_ (by simp) _) | (with_reducible refine Below.alloc ?_ (by simp) _))
theorem rb_minf (w : World) : Calls Tryz.prog 73 #[.string ⟨#[45, 73, 78, 70]⟩] w fun e' w' => e' = .returned (.tuple #[.agg #[.bool false, .bool true, .bool true, .string ⟨#[]⟩, .int .i64 0], .bool true]) ∧ Below w.heap.size w w' := by
  go_enter Tryz.func73, Tryz.ntmps73
  go_wp2_with fail
  refine bodyPost_ret (v := .tuple #[.agg #[.bool false, .bool true, .bool true, .string ⟨#[]⟩, .int .i64 0], .bool true]) (by simp [results, Tryz.results73, go_sem]) rfl ⟨rfl, ?_⟩
  repeat (first | with_reducible exact Below.refl _ _ | with_reducible refine below_drewN ?_ _ | (with_reducible refine Below.setCell ?_ (by simp) _) | (with_reducible refine Below.alloc ?_ (by simp) _))
set_option maxHeartbeats 2000000 in
theorem rb_dec (s : ByteArray) (w : World) (b1 b2 b3 : Bool) (D : ByteArray) (p : Int) (ok : Bool) (n1 : (s.toList == [78, 97, 78]) = false) (n2 : (s.toList == [73, 78, 70]) = false) (n3 : (s.toList == [43, 73, 78, 70]) = false) (n4 : (s.toList == [45, 73, 78, 70]) = false) (hs : s.size ≤ 4000000000) (hno : ∀ j, j < s.size → ∀ h : j < s.size, (((s[j]).toNat : Nat) : Int) ≠ 101 ∧ (((s[j]).toNat : Nat) : Int) ≠ 69)
    (hdc : ∀ w, Calls Tryz.prog 70 #[.string s, .int .i64 0] w fun e' w' => e' = .returned (.tuple #[.agg #[.bool b1, .bool b2, .bool b3, .string D, .int .i64 p], .bool ok]) ∧ Below w.heap.size w w') :
    Calls Tryz.prog 73 #[.string s] w fun e' w' => e' = .returned (.tuple #[.agg #[.bool b1, .bool b2, .bool b3, .string D, .int .i64 p], .bool ok]) ∧ Below w.heap.size w w' := by
  have HDC := Lib.hid hdc
  have HNO := Lib.hid hno
  clear hdc hno
  go_enter Tryz.func73, Tryz.ntmps73
  go_wp2_with fail
  go_loop [4] (fun i => ∃ j : Nat, j ≤ s.size ∧ i = .int .i64 (j : Nat)) (fun i => s.size - (intOf i).toNat)
  case atStart => exact ⟨0, Nat.zero_le _, rfl⟩
  case round =>
    obtain ⟨j, hj, rfl⟩ := hrel
    by_cases hlt : j < s.size
    ·
      have hjs : j < s.size := by omega
      have h1 : (((s[j]).toNat : Nat) : Int) ≠ 101 := (HNO.out j hlt hjs).1
      have h2 : (((s[j]).toNat : Nat) : Int) ≠ 69 := (HNO.out j hlt hjs).2
      have g1 : ((((s[j]).toNat : Nat) : Int) != 101) = true := bne_iff_ne.2 h1
      have g2 : ((((s[j]).toNat : Nat) : Int) != 69) = true := bne_iff_ne.2 h2
      clear h1 h2
      have hlt' := hlt
      go_wp2_with fail
      go_round
      case rel => exact ⟨j + 1, by omega, by go_num⟩
      case measure => simp [intOf]; omega
    · have hjs : j = s.size := by omega
      clear HNO
      go_wp2_with (go_at_call 70; (with_reducible refine (HDC.out _).mono ?_); rintro e' w1 ⟨rfl, hb1⟩; (have R1 := (Res1.start 61 #[.bool false, .bool false, .bool false, .string ⟨#[]⟩, .int .i64 0] w).next hb1); (have c10 : w1.cell? ⟨w.heap.size, 0, none⟩ = some (.bool false) := R1.cell 0); (have c11 : w1.cell? ⟨w.heap.size, 1, none⟩ = some (.bool false) := R1.cell 1); (have c12 : w1.cell? ⟨w.heap.size, 2, none⟩ = some (.bool false) := R1.cell 2); (have c13 : w1.cell? ⟨w.heap.size, 3, none⟩ = some (.string ⟨#[]⟩) := R1.cell 3); (have c14 : w1.cell? ⟨w.heap.size, 4, none⟩ = some (.int .i64 0) := R1.cell 4); (have f1 : ∀ i, w1.frozen? ⟨w.heap.size, i, none⟩ = false := R1.frozen))
      refine bodyPost_ret (v := .tuple #[.agg #[.bool b1, .bool b2, .bool b3, .string D, .int .i64 p], .bool ok]) (by simp [results, Tryz.results73, go_sem, c10, c11, c12, c13, c14]) rfl ⟨rfl, ?_⟩
      repeat (first | exact R1.below | with_reducible refine below_drewN ?_ _ | (with_reducible refine Below.setCell ?_ (by simp) _))
set_option maxHeartbeats 2000000 in
theorem rb_noe (s : ByteArray) (w : World) (n1 : (s.toList == [78, 97, 78]) = false) (n2 : (s.toList == [73, 78, 70]) = false) (n3 : (s.toList == [43, 73, 78, 70]) = false) (n4 : (s.toList == [45, 73, 78, 70]) = false) (hs : s.size ≤ 4000000000) (k : Nat) (hk : k < s.size) (X Y : ByteArray) (hX : s.extract (k + 1) s.size = X) (hYs : Y.size ≤ 4000000000) (by1 : Bool) (hc : (((s[k]).toNat : Nat) : Int) = 101)  (hno : ∀ j, j < k → ∀ h : j < s.size, (((s[j]).toNat : Nat) : Int) ≠ 101 ∧ (((s[j]).toNat : Nat) : Int) ≠ 69) 
    (hsg : ∀ w, Calls Tryz.prog 107 #[.string X] w fun e' w' => e' = .returned (.tuple #[.string Y, .bool by1]) ∧ Below w.heap.size w w') (hin : ∀ w, Calls Tryz.prog 71 #[.string X] w fun e' w' => e' = .returned (.bool false) ∧ Below w.heap.size w w') :
    Calls Tryz.prog 73 #[.string s] w fun e' w' => e' = .returned (.tuple #[.agg #[.bool false, .bool false, .bool false, .string ⟨#[]⟩, .int .i64 0], .bool false]) ∧ Below w.heap.size w w' := by
  have HSG := Lib.hid hsg
  have HIN := Lib.hid hin
  have HNO := Lib.hid hno
  clear hsg hin hno
  have HC := Lib.hid hc
  clear hc
  go_enter Tryz.func73, Tryz.ntmps73
  go_wp2_with fail
  go_loop [4] (fun i => ∃ j : Nat, j ≤ k ∧ i = .int .i64 (j : Nat)) (fun i => s.size - (intOf i).toNat)
  case atStart => exact ⟨0, Nat.zero_le _, rfl⟩
  case round =>
    obtain ⟨j, hj, rfl⟩ := hrel
    by_cases hlt : j < k
    ·
      have hjs : j < s.size := by omega
      have h1 : (((s[j]).toNat : Nat) : Int) ≠ 101 := (HNO.out j hlt hjs).1
      have h2 : (((s[j]).toNat : Nat) : Int) ≠ 69 := (HNO.out j hlt hjs).2
      have g1 : ((((s[j]).toNat : Nat) : Int) != 101) = true := bne_iff_ne.2 h1
      have g2 : ((((s[j]).toNat : Nat) : Int) != 69) = true := bne_iff_ne.2 h2
      clear h1 h2
      have hlt' := hlt
      go_wp2_with fail
      go_round
      case rel => exact ⟨j + 1, by omega, by go_num⟩
      case measure => simp [intOf]; omega
    · obtain rfl : j = k := by omega
      have hc := HC.out
      have hm9 : ((j : Int) + 1).toNat = j + 1 := by omega
      clear HNO HC hlt hj
      go_wp2_with (first | (go_at_call 107; (with_reducible refine (HSG.out _).mono ?_); rintro e' w1 ⟨rfl, hb1⟩; (have R1 := (Res1.start 61 #[.bool false, .bool false, .bool false, .string ⟨#[]⟩, .int .i64 0] w).next hb1); (have c10 : w1.cell? ⟨w.heap.size, 0, none⟩ = some (.bool false) := R1.cell 0); (have c11 : w1.cell? ⟨w.heap.size, 1, none⟩ = some (.bool false) := R1.cell 1); (have c12 : w1.cell? ⟨w.heap.size, 2, none⟩ = some (.bool false) := R1.cell 2); (have c13 : w1.cell? ⟨w.heap.size, 3, none⟩ = some (.string ⟨#[]⟩) := R1.cell 3); (have c14 : w1.cell? ⟨w.heap.size, 4, none⟩ = some (.int .i64 0) := R1.cell 4); (have f1 : ∀ i, w1.frozen? ⟨w.heap.size, i, none⟩ = false := R1.frozen)) | (go_at_call 71; (with_reducible refine (HIN.out _).mono ?_); rintro e' w2 ⟨rfl, hb2⟩; (have R2 := (R1).next hb2); (have c20 : w2.cell? ⟨w.heap.size, 0, none⟩ = some (.bool false) := R2.cell 0); (have c21 : w2.cell? ⟨w.heap.size, 1, none⟩ = some (.bool false) := R2.cell 1); (have c22 : w2.cell? ⟨w.heap.size, 2, none⟩ = some (.bool false) := R2.cell 2); (have c23 : w2.cell? ⟨w.heap.size, 3, none⟩ = some (.string ⟨#[]⟩) := R2.cell 3); (have c24 : w2.cell? ⟨w.heap.size, 4, none⟩ = some (.int .i64 0) := R2.cell 4); (have f2 : ∀ i, w2.frozen? ⟨w.heap.size, i, none⟩ = false := R2.frozen)))
      refine bodyPost_ret (v := .tuple #[.agg #[.bool false, .bool false, .bool false, .string ⟨#[]⟩, .int .i64 0], .bool false]) (by simp [results, Tryz.results73, go_sem, c20, c21, c22, c23, c24]) rfl ⟨rfl, ?_⟩
      repeat (first | exact R2.below | with_reducible refine below_drewN ?_ _ | (with_reducible refine Below.setCell ?_ (by simp) _))
set_option maxHeartbeats 2000000 in
theorem rb_longe (s : ByteArray) (w : World) (n1 : (s.toList == [78, 97, 78]) = false) (n2 : (s.toList == [73, 78, 70]) = false) (n3 : (s.toList == [43, 73, 78, 70]) = false) (n4 : (s.toList == [45, 73, 78, 70]) = false) (hs : s.size ≤ 4000000000) (k : Nat) (hk : k < s.size) (X Y : ByteArray) (hX : s.extract (k + 1) s.size = X) (hYs : Y.size ≤ 4000000000) (by1 : Bool) (hc : (((s[k]).toNat : Nat) : Int) = 101) (hl : (9 : Int) < (Y.size : Int)) (hno : ∀ j, j < k → ∀ h : j < s.size, (((s[j]).toNat : Nat) : Int) ≠ 101 ∧ (((s[j]).toNat : Nat) : Int) ≠ 69) 
    (hsg : ∀ w, Calls Tryz.prog 107 #[.string X] w fun e' w' => e' = .returned (.tuple #[.string Y, .bool by1]) ∧ Below w.heap.size w w') (hin : ∀ w, Calls Tryz.prog 71 #[.string X] w fun e' w' => e' = .returned (.bool true) ∧ Below w.heap.size w w') :
    Calls Tryz.prog 73 #[.string s] w fun e' w' => e' = .returned (.tuple #[.agg #[.bool false, .bool false, .bool false, .string ⟨#[]⟩, .int .i64 0], .bool false]) ∧ Below w.heap.size w w' := by
  have HSG := Lib.hid hsg
  have HIN := Lib.hid hin
  have HNO := Lib.hid hno
  clear hsg hin hno
  have HC := Lib.hid hc
  clear hc
  go_enter Tryz.func73, Tryz.ntmps73
  go_wp2_with fail
  go_loop [4] (fun i => ∃ j : Nat, j ≤ k ∧ i = .int .i64 (j : Nat)) (fun i => s.size - (intOf i).toNat)
  case atStart => exact ⟨0, Nat.zero_le _, rfl⟩
  case round =>
    obtain ⟨j, hj, rfl⟩ := hrel
    by_cases hlt : j < k
    ·
      have hjs : j < s.size := by omega
      have h1 : (((s[j]).toNat : Nat) : Int) ≠ 101 := (HNO.out j hlt hjs).1
      have h2 : (((s[j]).toNat : Nat) : Int) ≠ 69 := (HNO.out j hlt hjs).2
      have g1 : ((((s[j]).toNat : Nat) : Int) != 101) = true := bne_iff_ne.2 h1
      have g2 : ((((s[j]).toNat : Nat) : Int) != 69) = true := bne_iff_ne.2 h2
      clear h1 h2
      have hlt' := hlt
      go_wp2_with fail
      go_round
      case rel => exact ⟨j + 1, by omega, by go_num⟩
      case measure => simp [intOf]; omega
    · obtain rfl : j = k := by omega
      have hc := HC.out
      have hm9 : ((j : Int) + 1).toNat = j + 1 := by omega
      clear HNO HC hlt hj
      go_wp2_with (first | (go_at_call 107; (with_reducible refine (HSG.out _).mono ?_); rintro e' w1 ⟨rfl, hb1⟩; (have R1 := (Res1.start 61 #[.bool false, .bool false, .bool false, .string ⟨#[]⟩, .int .i64 0] w).next hb1); (have c10 : w1.cell? ⟨w.heap.size, 0, none⟩ = some (.bool false) := R1.cell 0); (have c11 : w1.cell? ⟨w.heap.size, 1, none⟩ = some (.bool false) := R1.cell 1); (have c12 : w1.cell? ⟨w.heap.size, 2, none⟩ = some (.bool false) := R1.cell 2); (have c13 : w1.cell? ⟨w.heap.size, 3, none⟩ = some (.string ⟨#[]⟩) := R1.cell 3); (have c14 : w1.cell? ⟨w.heap.size, 4, none⟩ = some (.int .i64 0) := R1.cell 4); (have f1 : ∀ i, w1.frozen? ⟨w.heap.size, i, none⟩ = false := R1.frozen)) | (go_at_call 71; (with_reducible refine (HIN.out _).mono ?_); rintro e' w2 ⟨rfl, hb2⟩; (have R2 := (R1).next hb2); (have c20 : w2.cell? ⟨w.heap.size, 0, none⟩ = some (.bool false) := R2.cell 0); (have c21 : w2.cell? ⟨w.heap.size, 1, none⟩ = some (.bool false) := R2.cell 1); (have c22 : w2.cell? ⟨w.heap.size, 2, none⟩ = some (.bool false) := R2.cell 2); (have c23 : w2.cell? ⟨w.heap.size, 3, none⟩ = some (.string ⟨#[]⟩) := R2.cell 3); (have c24 : w2.cell? ⟨w.heap.size, 4, none⟩ = some (.int .i64 0) := R2.cell 4); (have f2 : ∀ i, w2.frozen? ⟨w.heap.size, i, none⟩ = false := R2.frozen)))
      refine bodyPost_ret (v := .tuple #[.agg #[.bool false, .bool false, .bool false, .string ⟨#[]⟩, .int .i64 0], .bool false]) (by simp [results, Tryz.results73, go_sem, c20, c21, c22, c23, c24]) rfl ⟨rfl, ?_⟩
      repeat (first | exact R2.below | with_reducible refine below_drewN ?_ _ | (with_reducible refine Below.setCell ?_ (by simp) _))
set_option maxHeartbeats 2000000 in
theorem rb_oke (s : ByteArray) (w : World) (n1 : (s.toList == [78, 97, 78]) = false) (n2 : (s.toList == [73, 78, 70]) = false) (n3 : (s.toList == [43, 73, 78, 70]) = false) (n4 : (s.toList == [45, 73, 78, 70]) = false) (hs : s.size ≤ 4000000000) (k : Nat) (hk : k < s.size) (X Y : ByteArray) (hX : s.extract (k + 1) s.size = X) (hYs : Y.size ≤ 4000000000) (by1 : Bool) (hc : (((s[k]).toNat : Nat) : Int) = 101) (hl : (Y.size : Int) ≤ 9) (hno : ∀ j, j < k → ∀ h : j < s.size, (((s[j]).toNat : Nat) : Int) ≠ 101 ∧ (((s[j]).toNat : Nat) : Int) ≠ 69) (b1 b2 b3 : Bool) (D : ByteArray) (p : Int) (ok : Bool) (H : ByteArray) (z : Int) (hH : s.extract 0 k = H)
    (hsg : ∀ w, Calls Tryz.prog 107 #[.string X] w fun e' w' => e' = .returned (.tuple #[.string Y, .bool by1]) ∧ Below w.heap.size w w') (hin : ∀ w, Calls Tryz.prog 71 #[.string X] w fun e' w' => e' = .returned (.bool true) ∧ Below w.heap.size w w')
    (hsm : ∀ w, Calls Tryz.prog 110 #[.string X] w fun e' w' => e' = .returned (.int .i64 z) ∧ Below w.heap.size w w')
    (hdc : ∀ w, Calls Tryz.prog 70 #[.string H, .int .i64 z] w fun e' w' => e' = .returned (.tuple #[.agg #[.bool b1, .bool b2, .bool b3, .string D, .int .i64 p], .bool ok]) ∧ Below w.heap.size w w') :
    Calls Tryz.prog 73 #[.string s] w fun e' w' => e' = .returned (.tuple #[.agg #[.bool b1, .bool b2, .bool b3, .string D, .int .i64 p], .bool ok]) ∧ Below w.heap.size w w' := by
  have HSG := Lib.hid hsg
  have HIN := Lib.hid hin
  have HNO := Lib.hid hno
  have HSM := Lib.hid hsm
  have HDC := Lib.hid hdc
  clear hsm hdc
  clear hsg hin hno
  have HC := Lib.hid hc
  clear hc
  go_enter Tryz.func73, Tryz.ntmps73
  go_wp2_with fail
  go_loop [4] (fun i => ∃ j : Nat, j ≤ k ∧ i = .int .i64 (j : Nat)) (fun i => s.size - (intOf i).toNat)
  case atStart => exact ⟨0, Nat.zero_le _, rfl⟩
  case round =>
    obtain ⟨j, hj, rfl⟩ := hrel
    by_cases hlt : j < k
    ·
      have hjs : j < s.size := by omega
      have h1 : (((s[j]).toNat : Nat) : Int) ≠ 101 := (HNO.out j hlt hjs).1
      have h2 : (((s[j]).toNat : Nat) : Int) ≠ 69 := (HNO.out j hlt hjs).2
      have g1 : ((((s[j]).toNat : Nat) : Int) != 101) = true := bne_iff_ne.2 h1
      have g2 : ((((s[j]).toNat : Nat) : Int) != 69) = true := bne_iff_ne.2 h2
      clear h1 h2
      have hlt' := hlt
      go_wp2_with fail
      go_round
      case rel => exact ⟨j + 1, by omega, by go_num⟩
      case measure => simp [intOf]; omega
    · obtain rfl : j = k := by omega
      have hc := HC.out
      have hm9 : ((j : Int) + 1).toNat = j + 1 := by omega
      clear HNO HC hlt hj
      go_upto_region 18 with (first | (go_at_call 107; (with_reducible refine (HSG.out _).mono ?_); rintro e' w1 ⟨rfl, hb1⟩; (have R1 := (Res1.start 61 #[.bool false, .bool false, .bool false, .string ⟨#[]⟩, .int .i64 0] w).next hb1); (have c10 : w1.cell? ⟨w.heap.size, 0, none⟩ = some (.bool false) := R1.cell 0); (have c11 : w1.cell? ⟨w.heap.size, 1, none⟩ = some (.bool false) := R1.cell 1); (have c12 : w1.cell? ⟨w.heap.size, 2, none⟩ = some (.bool false) := R1.cell 2); (have c13 : w1.cell? ⟨w.heap.size, 3, none⟩ = some (.string ⟨#[]⟩) := R1.cell 3); (have c14 : w1.cell? ⟨w.heap.size, 4, none⟩ = some (.int .i64 0) := R1.cell 4); (have f1 : ∀ i, w1.frozen? ⟨w.heap.size, i, none⟩ = false := R1.frozen)) | (go_at_call 71; (with_reducible refine (HIN.out _).mono ?_); rintro e' w2 ⟨rfl, hb2⟩; (have R2 := (R1).next hb2); (have c20 : w2.cell? ⟨w.heap.size, 0, none⟩ = some (.bool false) := R2.cell 0); (have c21 : w2.cell? ⟨w.heap.size, 1, none⟩ = some (.bool false) := R2.cell 1); (have c22 : w2.cell? ⟨w.heap.size, 2, none⟩ = some (.bool false) := R2.cell 2); (have c23 : w2.cell? ⟨w.heap.size, 3, none⟩ = some (.string ⟨#[]⟩) := R2.cell 3); (have c24 : w2.cell? ⟨w.heap.size, 4, none⟩ = some (.int .i64 0) := R2.cell 4); (have f2 : ∀ i, w2.frozen? ⟨w.heap.size, i, none⟩ = false := R2.frozen)))
      refine wp_region_lw_tail 8 (by kernel_rfl) (by kernel_rfl) ?_
      simp only [List.take_succ_cons, List.take_zero, List.drop_succ_cons, List.drop_zero]
      repeat (go_big_quiet_step (first | exact rfl | (go_at_call 110; with_reducible exact lw_call (HSM.out _)) | (go_at_call 70; with_reducible exact lw_call (HDC.out _))))
      refine wpQuiet_nil ?_
      rintro ⟨w3, hb3⟩
      dsimp only
      have R3 := (R2).next hb3
      have c30 : w3.cell? ⟨w.heap.size, 0, none⟩ = some (.bool false) := R3.cell 0
      have c31 : w3.cell? ⟨w.heap.size, 1, none⟩ = some (.bool false) := R3.cell 1
      have c32 : w3.cell? ⟨w.heap.size, 2, none⟩ = some (.bool false) := R3.cell 2
      have c33 : w3.cell? ⟨w.heap.size, 3, none⟩ = some (.string ⟨#[]⟩) := R3.cell 3
      have c34 : w3.cell? ⟨w.heap.size, 4, none⟩ = some (.int .i64 0) := R3.cell 4
      have f3 : ∀ i, w3.frozen? ⟨w.heap.size, i, none⟩ = false := R3.frozen
      go_wp2_with fail
      refine bodyPost_ret (v := .tuple #[.agg #[.bool b1, .bool b2, .bool b3, .string D, .int .i64 p], .bool ok]) (by simp [results, Tryz.results73, go_sem, c30, c31, c32, c33, c34]) rfl ⟨rfl, ?_⟩
      repeat (first | exact R3.below | with_reducible refine below_drewN ?_ _ | (with_reducible refine Below.setCell ?_ (by simp) _))
set_option maxHeartbeats 2000000 in
theorem rb_noE (s : ByteArray) (w : World) (n1 : (s.toList == [78, 97, 78]) = false) (n2 : (s.toList == [73, 78, 70]) = false) (n3 : (s.toList == [43, 73, 78, 70]) = false) (n4 : (s.toList == [45, 73, 78, 70]) = false) (hs : s.size ≤ 4000000000) (k : Nat) (hk : k < s.size) (X Y : ByteArray) (hX : s.extract (k + 1) s.size = X) (hYs : Y.size ≤ 4000000000) (by1 : Bool) (hc : (((s[k]).toNat : Nat) : Int) = 69)  (hno : ∀ j, j < k → ∀ h : j < s.size, (((s[j]).toNat : Nat) : Int) ≠ 101 ∧ (((s[j]).toNat : Nat) : Int) ≠ 69) 
    (hsg : ∀ w, Calls Tryz.prog 107 #[.string X] w fun e' w' => e' = .returned (.tuple #[.string Y, .bool by1]) ∧ Below w.heap.size w w') (hin : ∀ w, Calls Tryz.prog 71 #[.string X] w fun e' w' => e' = .returned (.bool false) ∧ Below w.heap.size w w') :
    Calls Tryz.prog 73 #[.string s] w fun e' w' => e' = .returned (.tuple #[.agg #[.bool false, .bool false, .bool false, .string ⟨#[]⟩, .int .i64 0], .bool false]) ∧ Below w.heap.size w w' := by
  have HSG := Lib.hid hsg
  have HIN := Lib.hid hin
  have HNO := Lib.hid hno
  clear hsg hin hno
  have HC := Lib.hid hc
  clear hc
  go_enter Tryz.func73, Tryz.ntmps73
  go_wp2_with fail
  go_loop [4] (fun i => ∃ j : Nat, j ≤ k ∧ i = .int .i64 (j : Nat)) (fun i => s.size - (intOf i).toNat)
  case atStart => exact ⟨0, Nat.zero_le _, rfl⟩
  case round =>
    obtain ⟨j, hj, rfl⟩ := hrel
    by_cases hlt : j < k
    ·
      have hjs : j < s.size := by omega
      have h1 : (((s[j]).toNat : Nat) : Int) ≠ 101 := (HNO.out j hlt hjs).1
      have h2 : (((s[j]).toNat : Nat) : Int) ≠ 69 := (HNO.out j hlt hjs).2
      have g1 : ((((s[j]).toNat : Nat) : Int) != 101) = true := bne_iff_ne.2 h1
      have g2 : ((((s[j]).toNat : Nat) : Int) != 69) = true := bne_iff_ne.2 h2
      clear h1 h2
      have hlt' := hlt
      go_wp2_with fail
      go_round
      case rel => exact ⟨j + 1, by omega, by go_num⟩
      case measure => simp [intOf]; omega
    · obtain rfl : j = k := by omega
      have hc := HC.out
      have hm9 : ((j : Int) + 1).toNat = j + 1 := by omega
      clear HNO HC hlt hj
      go_wp2_with (first | (go_at_call 107; (with_reducible refine (HSG.out _).mono ?_); rintro e' w1 ⟨rfl, hb1⟩; (have R1 := (Res1.start 61 #[.bool false, .bool false, .bool false, .string ⟨#[]⟩, .int .i64 0] w).next hb1); (have c10 : w1.cell? ⟨w.heap.size, 0, none⟩ = some (.bool false) := R1.cell 0); (have c11 : w1.cell? ⟨w.heap.size, 1, none⟩ = some (.bool false) := R1.cell 1); (have c12 : w1.cell? ⟨w.heap.size, 2, none⟩ = some (.bool false) := R1.cell 2); (have c13 : w1.cell? ⟨w.heap.size, 3, none⟩ = some (.string ⟨#[]⟩) := R1.cell 3); (have c14 : w1.cell? ⟨w.heap.size, 4, none⟩ = some (.int .i64 0) := R1.cell 4); (have f1 : ∀ i, w1.frozen? ⟨w.heap.size, i, none⟩ = false := R1.frozen)) | (go_at_call 71; (with_reducible refine (HIN.out _).mono ?_); rintro e' w2 ⟨rfl, hb2⟩; (have R2 := (R1).next hb2); (have c20 : w2.cell? ⟨w.heap.size, 0, none⟩ = some (.bool false) := R2.cell 0); (have c21 : w2.cell? ⟨w.heap.size, 1, none⟩ = some (.bool false) := R2.cell 1); (have c22 : w2.cell? ⟨w.heap.size, 2, none⟩ = some (.bool false) := R2.cell 2); (have c23 : w2.cell? ⟨w.heap.size, 3, none⟩ = some (.string ⟨#[]⟩) := R2.cell 3); (have c24 : w2.cell? ⟨w.heap.size, 4, none⟩ = some (.int .i64 0) := R2.cell 4); (have f2 : ∀ i, w2.frozen? ⟨w.heap.size, i, none⟩ = false := R2.frozen)))
      refine bodyPost_ret (v := .tuple #[.agg #[.bool false, .bool false, .bool false, .string ⟨#[]⟩, .int .i64 0], .bool false]) (by simp [results, Tryz.results73, go_sem, c20, c21, c22, c23, c24]) rfl ⟨rfl, ?_⟩
      repeat (first | exact R2.below | with_reducible refine below_drewN ?_ _ | (with_reducible refine Below.setCell ?_ (by simp) _))
set_option maxHeartbeats 2000000 in
theorem rb_longE (s : ByteArray) (w : World) (n1 : (s.toList == [78, 97, 78]) = false) (n2 : (s.toList == [73, 78, 70]) = false) (n3 : (s.toList == [43, 73, 78, 70]) = false) (n4 : (s.toList == [45, 73, 78, 70]) = false) (hs : s.size ≤ 4000000000) (k : Nat) (hk : k < s.size) (X Y : ByteArray) (hX : s.extract (k + 1) s.size = X) (hYs : Y.size ≤ 4000000000) (by1 : Bool) (hc : (((s[k]).toNat : Nat) : Int) = 69) (hl : (9 : Int) < (Y.size : Int)) (hno : ∀ j, j < k → ∀ h : j < s.size, (((s[j]).toNat : Nat) : Int) ≠ 101 ∧ (((s[j]).toNat : Nat) : Int) ≠ 69) 
    (hsg : ∀ w, Calls Tryz.prog 107 #[.string X] w fun e' w' => e' = .returned (.tuple #[.string Y, .bool by1]) ∧ Below w.heap.size w w') (hin : ∀ w, Calls Tryz.prog 71 #[.string X] w fun e' w' => e' = .returned (.bool true) ∧ Below w.heap.size w w') :
    Calls Tryz.prog 73 #[.string s] w fun e' w' => e' = .returned (.tuple #[.agg #[.bool false, .bool false, .bool false, .string ⟨#[]⟩, .int .i64 0], .bool false]) ∧ Below w.heap.size w w' := by
  have HSG := Lib.hid hsg
  have HIN := Lib.hid hin
  have HNO := Lib.hid hno
  clear hsg hin hno
  have HC := Lib.hid hc
  clear hc
  go_enter Tryz.func73, Tryz.ntmps73
  go_wp2_with fail
  go_loop [4] (fun i => ∃ j : Nat, j ≤ k ∧ i = .int .i64 (j : Nat)) (fun i => s.size - (intOf i).toNat)
  case atStart => exact ⟨0, Nat.zero_le _, rfl⟩
  case round =>
    obtain ⟨j, hj, rfl⟩ := hrel
    by_cases hlt : j < k
    ·
      have hjs : j < s.size := by omega
      have h1 : (((s[j]).toNat : Nat) : Int) ≠ 101 := (HNO.out j hlt hjs).1
      have h2 : (((s[j]).toNat : Nat) : Int) ≠ 69 := (HNO.out j hlt hjs).2
      have g1 : ((((s[j]).toNat : Nat) : Int) != 101) = true := bne_iff_ne.2 h1
      have g2 : ((((s[j]).toNat : Nat) : Int) != 69) = true := bne_iff_ne.2 h2
      clear h1 h2
      have hlt' := hlt
      go_wp2_with fail
      go_round
      case rel => exact ⟨j + 1, by omega, by go_num⟩
      case measure => simp [intOf]; omega
    · obtain rfl : j = k := by omega
      have hc := HC.out
      have hm9 : ((j : Int) + 1).toNat = j + 1 := by omega
      clear HNO HC hlt hj
      go_wp2_with (first | (go_at_call 107; (with_reducible refine (HSG.out _).mono ?_); rintro e' w1 ⟨rfl, hb1⟩; (have R1 := (Res1.start 61 #[.bool false, .bool false, .bool false, .string ⟨#[]⟩, .int .i64 0] w).next hb1); (have c10 : w1.cell? ⟨w.heap.size, 0, none⟩ = some (.bool false) := R1.cell 0); (have c11 : w1.cell? ⟨w.heap.size, 1, none⟩ = some (.bool false) := R1.cell 1); (have c12 : w1.cell? ⟨w.heap.size, 2, none⟩ = some (.bool false) := R1.cell 2); (have c13 : w1.cell? ⟨w.heap.size, 3, none⟩ = some (.string ⟨#[]⟩) := R1.cell 3); (have c14 : w1.cell? ⟨w.heap.size, 4, none⟩ = some (.int .i64 0) := R1.cell 4); (have f1 : ∀ i, w1.frozen? ⟨w.heap.size, i, none⟩ = false := R1.frozen)) | (go_at_call 71; (with_reducible refine (HIN.out _).mono ?_); rintro e' w2 ⟨rfl, hb2⟩; (have R2 := (R1).next hb2); (have c20 : w2.cell? ⟨w.heap.size, 0, none⟩ = some (.bool false) := R2.cell 0); (have c21 : w2.cell? ⟨w.heap.size, 1, none⟩ = some (.bool false) := R2.cell 1); (have c22 : w2.cell? ⟨w.heap.size, 2, none⟩ = some (.bool false) := R2.cell 2); (have c23 : w2.cell? ⟨w.heap.size, 3, none⟩ = some (.string ⟨#[]⟩) := R2.cell 3); (have c24 : w2.cell? ⟨w.heap.size, 4, none⟩ = some (.int .i64 0) := R2.cell 4); (have f2 : ∀ i, w2.frozen? ⟨w.heap.size, i, none⟩ = false := R2.frozen)))
      refine bodyPost_ret (v := .tuple #[.agg #[.bool false, .bool false, .bool false, .string ⟨#[]⟩, .int .i64 0], .bool false]) (by simp [results, Tryz.results73, go_sem, c20, c21, c22, c23, c24]) rfl ⟨rfl, ?_⟩
      repeat (first | exact R2.below | with_reducible refine below_drewN ?_ _ | (with_reducible refine Below.setCell ?_ (by simp) _))
set_option maxHeartbeats 2000000 in
theorem rb_okE (s : ByteArray) (w : World) (n1 : (s.toList == [78, 97, 78]) = false) (n2 : (s.toList == [73, 78, 70]) = false) (n3 : (s.toList == [43, 73, 78, 70]) = false) (n4 : (s.toList == [45, 73, 78, 70]) = false) (hs : s.size ≤ 4000000000) (k : Nat) (hk : k < s.size) (X Y : ByteArray) (hX : s.extract (k + 1) s.size = X) (hYs : Y.size ≤ 4000000000) (by1 : Bool) (hc : (((s[k]).toNat : Nat) : Int) = 69) (hl : (Y.size : Int) ≤ 9) (hno : ∀ j, j < k → ∀ h : j < s.size, (((s[j]).toNat : Nat) : Int) ≠ 101 ∧ (((s[j]).toNat : Nat) : Int) ≠ 69) (b1 b2 b3 : Bool) (D : ByteArray) (p : Int) (ok : Bool) (H : ByteArray) (z : Int) (hH : s.extract 0 k = H)
    (hsg : ∀ w, Calls Tryz.prog 107 #[.string X] w fun e' w' => e' = .returned (.tuple #[.string Y, .bool by1]) ∧ Below w.heap.size w w') (hin : ∀ w, Calls Tryz.prog 71 #[.string X] w fun e' w' => e' = .returned (.bool true) ∧ Below w.heap.size w w')
    (hsm : ∀ w, Calls Tryz.prog 110 #[.string X] w fun e' w' => e' = .returned (.int .i64 z) ∧ Below w.heap.size w w')
    (hdc : ∀ w, Calls Tryz.prog 70 #[.string H, .int .i64 z] w fun e' w' => e' = .returned (.tuple #[.agg #[.bool b1, .bool b2, .bool b3, .string D, .int .i64 p], .bool ok]) ∧ Below w.heap.size w w') :
    Calls Tryz.prog 73 #[.string s] w fun e' w' => e' = .returned (.tuple #[.agg #[.bool b1, .bool b2, .bool b3, .string D, .int .i64 p], .bool ok]) ∧ Below w.heap.size w w' := by
  have HSG := Lib.hid hsg
  have HIN := Lib.hid hin
  have HNO := Lib.hid hno
  have HSM := Lib.hid hsm
  have HDC := Lib.hid hdc
  clear hsm hdc
  clear hsg hin hno
  have HC := Lib.hid hc
  clear hc
  go_enter Tryz.func73, Tryz.ntmps73
  go_wp2_with fail
  go_loop [4] (fun i => ∃ j : Nat, j ≤ k ∧ i = .int .i64 (j : Nat)) (fun i => s.size - (intOf i).toNat)
  case atStart => exact ⟨0, Nat.zero_le _, rfl⟩
  case round =>
    obtain ⟨j, hj, rfl⟩ := hrel
    by_cases hlt : j < k
    ·
      have hjs : j < s.size := by omega
      have h1 : (((s[j]).toNat : Nat) : Int) ≠ 101 := (HNO.out j hlt hjs).1
      have h2 : (((s[j]).toNat : Nat) : Int) ≠ 69 := (HNO.out j hlt hjs).2
      have g1 : ((((s[j]).toNat : Nat) : Int) != 101) = true := bne_iff_ne.2 h1
      have g2 : ((((s[j]).toNat : Nat) : Int) != 69) = true := bne_iff_ne.2 h2
      clear h1 h2
      have hlt' := hlt
      go_wp2_with fail
      go_round
      case rel => exact ⟨j + 1, by omega, by go_num⟩
      case measure => simp [intOf]; omega
    · obtain rfl : j = k := by omega
      have hc := HC.out
      have hm9 : ((j : Int) + 1).toNat = j + 1 := by omega
      clear HNO HC hlt hj
      go_upto_region 18 with (first | (go_at_call 107; (with_reducible refine (HSG.out _).mono ?_); rintro e' w1 ⟨rfl, hb1⟩; (have R1 := (Res1.start 61 #[.bool false, .bool false, .bool false, .string ⟨#[]⟩, .int .i64 0] w).next hb1); (have c10 : w1.cell? ⟨w.heap.size, 0, none⟩ = some (.bool false) := R1.cell 0); (have c11 : w1.cell? ⟨w.heap.size, 1, none⟩ = some (.bool false) := R1.cell 1); (have c12 : w1.cell? ⟨w.heap.size, 2, none⟩ = some (.bool false) := R1.cell 2); (have c13 : w1.cell? ⟨w.heap.size, 3, none⟩ = some (.string ⟨#[]⟩) := R1.cell 3); (have c14 : w1.cell? ⟨w.heap.size, 4, none⟩ = some (.int .i64 0) := R1.cell 4); (have f1 : ∀ i, w1.frozen? ⟨w.heap.size, i, none⟩ = false := R1.frozen)) | (go_at_call 71; (with_reducible refine (HIN.out _).mono ?_); rintro e' w2 ⟨rfl, hb2⟩; (have R2 := (R1).next hb2); (have c20 : w2.cell? ⟨w.heap.size, 0, none⟩ = some (.bool false) := R2.cell 0); (have c21 : w2.cell? ⟨w.heap.size, 1, none⟩ = some (.bool false) := R2.cell 1); (have c22 : w2.cell? ⟨w.heap.size, 2, none⟩ = some (.bool false) := R2.cell 2); (have c23 : w2.cell? ⟨w.heap.size, 3, none⟩ = some (.string ⟨#[]⟩) := R2.cell 3); (have c24 : w2.cell? ⟨w.heap.size, 4, none⟩ = some (.int .i64 0) := R2.cell 4); (have f2 : ∀ i, w2.frozen? ⟨w.heap.size, i, none⟩ = false := R2.frozen)))
      refine wp_region_lw_tail 8 (by kernel_rfl) (by kernel_rfl) ?_
      simp only [List.take_succ_cons, List.take_zero, List.drop_succ_cons, List.drop_zero]
      repeat (go_big_quiet_step (first | exact rfl | (go_at_call 110; with_reducible exact lw_call (HSM.out _)) | (go_at_call 70; with_reducible exact lw_call (HDC.out _))))
      refine wpQuiet_nil ?_
      rintro ⟨w3, hb3⟩
      dsimp only
      have R3 := (R2).next hb3
      have c30 : w3.cell? ⟨w.heap.size, 0, none⟩ = some (.bool false) := R3.cell 0
      have c31 : w3.cell? ⟨w.heap.size, 1, none⟩ = some (.bool false) := R3.cell 1
      have c32 : w3.cell? ⟨w.heap.size, 2, none⟩ = some (.bool false) := R3.cell 2
      have c33 : w3.cell? ⟨w.heap.size, 3, none⟩ = some (.string ⟨#[]⟩) := R3.cell 3
      have c34 : w3.cell? ⟨w.heap.size, 4, none⟩ = some (.int .i64 0) := R3.cell 4
      have f3 : ∀ i, w3.frozen? ⟨w.heap.size, i, none⟩ = false := R3.frozen
      go_wp2_with fail
      refine bodyPost_ret (v := .tuple #[.agg #[.bool b1, .bool b2, .bool b3, .string D, .int .i64 p], .bool ok]) (by simp [results, Tryz.results73, go_sem, c30, c31, c32, c33, c34]) rfl ⟨rfl, ?_⟩
      repeat (first | exact R3.below | with_reducible refine below_drewN ?_ _ | (with_reducible refine Below.setCell ?_ (by simp) _))
end Go.Proofs.YtlhcejbimlilaaaGreatDoor
