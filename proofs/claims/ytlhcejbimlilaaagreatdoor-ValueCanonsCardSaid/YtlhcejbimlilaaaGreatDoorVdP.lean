/- The document's date: walks (written by gen_vdp.py). -/
import Derived.Test.YtlhcejbimlilaaaGreatDoorVaX
import Derived.Test.YtlhcejbimlilaaaGreatDoorQuL
set_option linter.unusedVariables false
set_option linter.unusedSimpArgs false
namespace Go.Proofs.YtlhcejbimlilaaaGreatDoor
open Go.RowKit Go.Tk
set_option maxHeartbeats 2000000 in
theorem da_loe (w : World) (g : Nat) (m : Mo8) (s : ByteArray) (hs : s.size ≤ 4000000000) (h0 : (s.toList == []) = true) (n : Nat) (hrn : ∀ w, Calls Tryz.prog 108 #[.string s] w fun e w' => e = .returned (.int .i64 (n : Nat)) ∧ w = w') (hb : (n : Int) < 4) (hr : MoAt w g m) :
    Calls Tryz.prog 90 #[.pointer (some ⟨g, 0, none⟩), .string s] w fun e w' => e = .returned (.tuple #[.string ⟨#[]⟩, .bool false]) ∧ w = w' := by
  have HRN := Lib.hid hrn
  clear hrn
  clear hr
  go_enter Tryz.func90, Tryz.ntmps90
  go_wp2_with (go_at_call 108; (with_reducible refine (HRN.out _).mono ?_); rintro e' w' ⟨rfl, rfl⟩)
  go_ret2
  exact ⟨rfl, rfl⟩
set_option maxHeartbeats 2000000 in
theorem da_lom (w : World) (g : Nat) (m : Mo8) (s : ByteArray) (hs : s.size ≤ 4000000000) (h0 : 0 < s.size) (he : (s.toList == []) = false) (hc0 : (((s[0]).toNat : Nat) : Int) = 45) (S1 : ByteArray) (hS1 : s.extract 1 s.size = S1) (hss : S1.size ≤ 4000000000) (n : Nat) (hrn : ∀ w, Calls Tryz.prog 108 #[.string S1] w fun e w' => e = .returned (.int .i64 (n : Nat)) ∧ w = w') (hb : (n : Int) < 4) (hr : MoAt w g m) :
    Calls Tryz.prog 90 #[.pointer (some ⟨g, 0, none⟩), .string s] w fun e w' => e = .returned (.tuple #[.string ⟨#[]⟩, .bool false]) ∧ w = w' := by
  have HRN := Lib.hid hrn
  clear hrn
  clear hr
  go_enter Tryz.func90, Tryz.ntmps90
  go_wp2_with (go_at_call 108; (with_reducible refine (HRN.out _).mono ?_); rintro e' w' ⟨rfl, rfl⟩)
  go_ret2
  exact ⟨rfl, rfl⟩
set_option maxHeartbeats 2000000 in
theorem da_him (w : World) (g : Nat) (m : Mo8) (s : ByteArray) (hs : s.size ≤ 4000000000) (h0 : 0 < s.size) (he : (s.toList == []) = false) (hc0 : (((s[0]).toNat : Nat) : Int) = 45) (S1 : ByteArray) (hS1 : s.extract 1 s.size = S1) (hss : S1.size ≤ 4000000000) (n : Nat) (hrn : ∀ w, Calls Tryz.prog 108 #[.string S1] w fun e w' => e = .returned (.int .i64 (n : Nat)) ∧ w = w') (hb : 9 < (n : Int)) (hb2 : 4 ≤ (n : Int)) (hr : MoAt w g m) :
    Calls Tryz.prog 90 #[.pointer (some ⟨g, 0, none⟩), .string s] w fun e w' => e = .returned (.tuple #[.string ⟨#[]⟩, .bool false]) ∧ w = w' := by
  have HRN := Lib.hid hrn
  clear hrn
  clear hr
  go_enter Tryz.func90, Tryz.ntmps90
  go_wp2_with (go_at_call 108; (with_reducible refine (HRN.out _).mono ?_); rintro e' w' ⟨rfl, rfl⟩)
  go_ret2
  exact ⟨rfl, rfl⟩
set_option maxHeartbeats 2000000 in
theorem da_zm (w : World) (g : Nat) (m : Mo8) (s : ByteArray) (hs : s.size ≤ 4000000000) (h0 : 0 < s.size) (he : (s.toList == []) = false) (hc0 : (((s[0]).toNat : Nat) : Int) = 45) (S1 : ByteArray) (hS1 : s.extract 1 s.size = S1) (hss : S1.size ≤ 4000000000) (n : Nat) (hrn : ∀ w, Calls Tryz.prog 108 #[.string S1] w fun e w' => e = .returned (.int .i64 (n : Nat)) ∧ w = w') (k0 : 0 < S1.size) (hb : (n : Int) ≤ 9) (hb2 : 4 < (n : Int)) (hb3 : 4 ≤ (n : Int)) (hz : (((S1[0]).toNat : Nat) : Int) = 48) (hr : MoAt w g m) :
    Calls Tryz.prog 90 #[.pointer (some ⟨g, 0, none⟩), .string s] w fun e w' => e = .returned (.tuple #[.string ⟨#[]⟩, .bool false]) ∧ w = w' := by
  have HRN := Lib.hid hrn
  clear hrn
  clear hr
  go_enter Tryz.func90, Tryz.ntmps90
  go_wp2_with (go_at_call 108; (with_reducible refine (HRN.out _).mono ?_); rintro e' w' ⟨rfl, rfl⟩)
  go_ret2
  exact ⟨rfl, rfl⟩
set_option maxHeartbeats 2000000 in
theorem da_lma (w : World) (g : Nat) (m : Mo8) (s : ByteArray) (hs : s.size ≤ 4000000000) (h0 : 0 < s.size) (he : (s.toList == []) = false) (hc0 : (((s[0]).toNat : Nat) : Int) = 45) (S1 : ByteArray) (hS1 : s.extract 1 s.size = S1) (hss : S1.size ≤ 4000000000) (n : Nat) (hrn : ∀ w, Calls Tryz.prog 108 #[.string S1] w fun e w' => e = .returned (.int .i64 (n : Nat)) ∧ w = w') (hb : 4 ≤ (n : Int)) (hb2 : (n : Int) ≤ 9) (hb3 : (n : Int) ≤ 4) (hnl : n ≤ S1.size) (P S2 : ByteArray) (hP : S1.extract 0 n = P) (hS2 : S1.extract n S1.size = S2) (hs2 : S2.size ≤ 4000000000) (Y : Int) (hsm : ∀ w, Calls Tryz.prog 110 #[.string P] w fun e w' => e = .returned (.int .i64 Y) ∧ Below w.heap.size w w') (hY0 : -2000000000 ≤ Y) (hY1 : Y ≤ 2000000000) (hl : (S2.size : Int) < 6) (hr : MoAt w g m) :
    Calls Tryz.prog 90 #[.pointer (some ⟨g, 0, none⟩), .string s] w fun e w' => e = .returned (.tuple #[.string ⟨#[]⟩, .bool false]) ∧ MoAt w' g { m with y := (-Y) } ∧ Below g w w' := by
  have HRN := Lib.hid hrn
  clear hrn
  have HSM := Lib.hid hsm
  clear hsm
  have HR := Lib.hid hr
  clear hr
  have kY : IntKind.i64.wrap (-Y) = -Y := by rw [IntKind.wrap_i64]; omega
  go_enter Tryz.func90, Tryz.ntmps90
  go_upto_region 7 with (go_at_call 108; (with_reducible refine (HRN.out _).mono ?_); rintro e' w' ⟨rfl, rfl⟩)
  have c0 := row_cell HR.out 0
  have fz := HR.out.froz
  simp [Mo8.cells] at c0
  go_upto_region 8 with (go_at_call 110; (with_reducible refine (HSM.out _).mono ?_); rintro e' w2 ⟨rfl, hbx⟩; (have R2 := HR.out.next hbx); (have c0' := row_cell R2 0); (have fz' := R2.froz); (simp [Mo8.cells] at c0'))
  have B2 : Below g w w2 := hbx.mono (Nat.le_of_lt HR.out.lt)
  have R3 : MoAt (w2.setCell ⟨g, 0, none⟩ (.int .i64 Y)) g { m with y := Y } := R2.set 0 _ rfl
  have B3 : Below g w (w2.setCell ⟨g, 0, none⟩ (.int .i64 Y)) := bel_set B2 0 _
  generalize World.setCell w2 _ _ = w3 at R3 B3 ⊢
  clear c0 fz c0' fz' R2 B2 hbx HR
  have c0 := row_cell R3 0
  have fz := R3.froz
  simp [Mo8.cells] at c0
  go_upto_region 10 with fail
  have R4 : MoAt (w3.setCell ⟨g, 0, none⟩ (.int .i64 (-Y))) g { m with y := -Y } := R3.set 0 _ rfl
  have B4 : Below g w (w3.setCell ⟨g, 0, none⟩ (.int .i64 (-Y))) := bel_set B3 0 _
  generalize World.setCell w3 _ _ = w4 at R4 B4 ⊢
  clear c0 fz R3 B3
  have HR4 := Lib.hid R4
  have HB4 := Lib.hid B4
  clear R4 B4
  go_wp2_with fail
  go_ret2
  exact ⟨rfl, HR4.out, HB4.out⟩
set_option maxHeartbeats 2000000 in
theorem da_cma (w : World) (g : Nat) (m : Mo8) (s : ByteArray) (hs : s.size ≤ 4000000000) (h0 : 0 < s.size) (he : (s.toList == []) = false) (hc0 : (((s[0]).toNat : Nat) : Int) = 45) (S1 : ByteArray) (hS1 : s.extract 1 s.size = S1) (hss : S1.size ≤ 4000000000) (n : Nat) (hrn : ∀ w, Calls Tryz.prog 108 #[.string S1] w fun e w' => e = .returned (.int .i64 (n : Nat)) ∧ w = w') (hb : 4 ≤ (n : Int)) (hb2 : (n : Int) ≤ 9) (hb3 : (n : Int) ≤ 4) (hnl : n ≤ S1.size) (P S2 : ByteArray) (hP : S1.extract 0 n = P) (hS2 : S1.extract n S1.size = S2) (hs2 : S2.size ≤ 4000000000) (Y : Int) (hsm : ∀ w, Calls Tryz.prog 110 #[.string P] w fun e w' => e = .returned (.int .i64 Y) ∧ Below w.heap.size w w') (hY0 : -2000000000 ≤ Y) (hY1 : Y ≤ 2000000000) (l0 : 0 < S2.size) (l3 : 3 < S2.size) (hl : 6 ≤ (S2.size : Int)) (q0 : (((S2[0]).toNat : Nat) : Int) ≠ 45) (hr : MoAt w g m) :
    Calls Tryz.prog 90 #[.pointer (some ⟨g, 0, none⟩), .string s] w fun e w' => e = .returned (.tuple #[.string ⟨#[]⟩, .bool false]) ∧ MoAt w' g { m with y := (-Y) } ∧ Below g w w' := by
  have q0b : ((((S2[0]).toNat : Nat) : Int) != 45) = true := bne_iff_ne.2 q0
  have HRN := Lib.hid hrn
  clear hrn
  have HSM := Lib.hid hsm
  clear hsm
  have HR := Lib.hid hr
  clear hr
  have kY : IntKind.i64.wrap (-Y) = -Y := by rw [IntKind.wrap_i64]; omega
  go_enter Tryz.func90, Tryz.ntmps90
  go_upto_region 7 with (go_at_call 108; (with_reducible refine (HRN.out _).mono ?_); rintro e' w' ⟨rfl, rfl⟩)
  have c0 := row_cell HR.out 0
  have fz := HR.out.froz
  simp [Mo8.cells] at c0
  go_upto_region 8 with (go_at_call 110; (with_reducible refine (HSM.out _).mono ?_); rintro e' w2 ⟨rfl, hbx⟩; (have R2 := HR.out.next hbx); (have c0' := row_cell R2 0); (have fz' := R2.froz); (simp [Mo8.cells] at c0'))
  have B2 : Below g w w2 := hbx.mono (Nat.le_of_lt HR.out.lt)
  have R3 : MoAt (w2.setCell ⟨g, 0, none⟩ (.int .i64 Y)) g { m with y := Y } := R2.set 0 _ rfl
  have B3 : Below g w (w2.setCell ⟨g, 0, none⟩ (.int .i64 Y)) := bel_set B2 0 _
  generalize World.setCell w2 _ _ = w3 at R3 B3 ⊢
  clear c0 fz c0' fz' R2 B2 hbx HR
  have c0 := row_cell R3 0
  have fz := R3.froz
  simp [Mo8.cells] at c0
  go_upto_region 10 with fail
  have R4 : MoAt (w3.setCell ⟨g, 0, none⟩ (.int .i64 (-Y))) g { m with y := -Y } := R3.set 0 _ rfl
  have B4 : Below g w (w3.setCell ⟨g, 0, none⟩ (.int .i64 (-Y))) := bel_set B3 0 _
  generalize World.setCell w3 _ _ = w4 at R4 B4 ⊢
  clear c0 fz R3 B3
  have HR4 := Lib.hid R4
  have HB4 := Lib.hid B4
  clear R4 B4
  go_wp2_with fail
  go_ret2
  exact ⟨rfl, HR4.out, HB4.out⟩
set_option maxHeartbeats 2000000 in
theorem da_dma (w : World) (g : Nat) (m : Mo8) (s : ByteArray) (hs : s.size ≤ 4000000000) (h0 : 0 < s.size) (he : (s.toList == []) = false) (hc0 : (((s[0]).toNat : Nat) : Int) = 45) (S1 : ByteArray) (hS1 : s.extract 1 s.size = S1) (hss : S1.size ≤ 4000000000) (n : Nat) (hrn : ∀ w, Calls Tryz.prog 108 #[.string S1] w fun e w' => e = .returned (.int .i64 (n : Nat)) ∧ w = w') (hb : 4 ≤ (n : Int)) (hb2 : (n : Int) ≤ 9) (hb3 : (n : Int) ≤ 4) (hnl : n ≤ S1.size) (P S2 : ByteArray) (hP : S1.extract 0 n = P) (hS2 : S1.extract n S1.size = S2) (hs2 : S2.size ≤ 4000000000) (Y : Int) (hsm : ∀ w, Calls Tryz.prog 110 #[.string P] w fun e w' => e = .returned (.int .i64 Y) ∧ Below w.heap.size w w') (hY0 : -2000000000 ≤ Y) (hY1 : Y ≤ 2000000000) (l0 : 0 < S2.size) (l3 : 3 < S2.size) (hl : 6 ≤ (S2.size : Int)) (q0 : (((S2[0]).toNat : Nat) : Int) = 45) (q3 : (((S2[3]).toNat : Nat) : Int) ≠ 45) (hr : MoAt w g m) :
    Calls Tryz.prog 90 #[.pointer (some ⟨g, 0, none⟩), .string s] w fun e w' => e = .returned (.tuple #[.string ⟨#[]⟩, .bool false]) ∧ MoAt w' g { m with y := (-Y) } ∧ Below g w w' := by
  have q3b : ((((S2[3]).toNat : Nat) : Int) != 45) = true := bne_iff_ne.2 q3
  have HRN := Lib.hid hrn
  clear hrn
  have HSM := Lib.hid hsm
  clear hsm
  have HR := Lib.hid hr
  clear hr
  have kY : IntKind.i64.wrap (-Y) = -Y := by rw [IntKind.wrap_i64]; omega
  go_enter Tryz.func90, Tryz.ntmps90
  go_upto_region 7 with (go_at_call 108; (with_reducible refine (HRN.out _).mono ?_); rintro e' w' ⟨rfl, rfl⟩)
  have c0 := row_cell HR.out 0
  have fz := HR.out.froz
  simp [Mo8.cells] at c0
  go_upto_region 8 with (go_at_call 110; (with_reducible refine (HSM.out _).mono ?_); rintro e' w2 ⟨rfl, hbx⟩; (have R2 := HR.out.next hbx); (have c0' := row_cell R2 0); (have fz' := R2.froz); (simp [Mo8.cells] at c0'))
  have B2 : Below g w w2 := hbx.mono (Nat.le_of_lt HR.out.lt)
  have R3 : MoAt (w2.setCell ⟨g, 0, none⟩ (.int .i64 Y)) g { m with y := Y } := R2.set 0 _ rfl
  have B3 : Below g w (w2.setCell ⟨g, 0, none⟩ (.int .i64 Y)) := bel_set B2 0 _
  generalize World.setCell w2 _ _ = w3 at R3 B3 ⊢
  clear c0 fz c0' fz' R2 B2 hbx HR
  have c0 := row_cell R3 0
  have fz := R3.froz
  simp [Mo8.cells] at c0
  go_upto_region 10 with fail
  have R4 : MoAt (w3.setCell ⟨g, 0, none⟩ (.int .i64 (-Y))) g { m with y := -Y } := R3.set 0 _ rfl
  have B4 : Below g w (w3.setCell ⟨g, 0, none⟩ (.int .i64 (-Y))) := bel_set B3 0 _
  generalize World.setCell w3 _ _ = w4 at R4 B4 ⊢
  clear c0 fz R3 B3
  have HR4 := Lib.hid R4
  have HB4 := Lib.hid B4
  clear R4 B4
  go_wp2_with fail
  go_ret2
  exact ⟨rfl, HR4.out, HB4.out⟩
set_option maxHeartbeats 2000000 in
theorem da_mma (w : World) (g : Nat) (m : Mo8) (s : ByteArray) (hs : s.size ≤ 4000000000) (h0 : 0 < s.size) (he : (s.toList == []) = false) (hc0 : (((s[0]).toNat : Nat) : Int) = 45) (S1 : ByteArray) (hS1 : s.extract 1 s.size = S1) (hss : S1.size ≤ 4000000000) (n : Nat) (hrn : ∀ w, Calls Tryz.prog 108 #[.string S1] w fun e w' => e = .returned (.int .i64 (n : Nat)) ∧ w = w') (hb : 4 ≤ (n : Int)) (hb2 : (n : Int) ≤ 9) (hb3 : (n : Int) ≤ 4) (hnl : n ≤ S1.size) (P S2 : ByteArray) (hP : S1.extract 0 n = P) (hS2 : S1.extract n S1.size = S2) (hs2 : S2.size ≤ 4000000000) (Y : Int) (hsm : ∀ w, Calls Tryz.prog 110 #[.string P] w fun e w' => e = .returned (.int .i64 Y) ∧ Below w.heap.size w w') (hY0 : -2000000000 ≤ Y) (hY1 : Y ≤ 2000000000) (l0 : 0 < S2.size) (l3 : 3 < S2.size) (hl : 6 ≤ (S2.size : Int)) (q0 : (((S2[0]).toNat : Nat) : Int) = 45) (q3 : (((S2[3]).toNat : Nat) : Int) = 45) (AQ : ByteArray) (hAQ : S2.extract 1 S2.size = AQ) (M : Int) (hM : ∀ w, Calls Tryz.prog 130 #[.string AQ, .int .i64 1, .int .i64 12] w fun e w' => e = .returned (.int .i64 M) ∧ Below w.heap.size w w') (bM : M < 0) (hr : MoAt w g m) :
    Calls Tryz.prog 90 #[.pointer (some ⟨g, 0, none⟩), .string s] w fun e w' => e = .returned (.tuple #[.string ⟨#[]⟩, .bool false]) ∧ MoAt w' g { m with y := (-Y), mo := M } ∧ Below g w w' := by
  have HM := Lib.hid hM
  clear hM
  have HRN := Lib.hid hrn
  clear hrn
  have HSM := Lib.hid hsm
  clear hsm
  have HR := Lib.hid hr
  clear hr
  have kY : IntKind.i64.wrap (-Y) = -Y := by rw [IntKind.wrap_i64]; omega
  go_enter Tryz.func90, Tryz.ntmps90
  go_upto_region 7 with (go_at_call 108; (with_reducible refine (HRN.out _).mono ?_); rintro e' w' ⟨rfl, rfl⟩)
  have c0 := row_cell HR.out 0
  have fz := HR.out.froz
  simp [Mo8.cells] at c0
  go_upto_region 8 with (go_at_call 110; (with_reducible refine (HSM.out _).mono ?_); rintro e' w2 ⟨rfl, hbx⟩; (have R2 := HR.out.next hbx); (have c0' := row_cell R2 0); (have fz' := R2.froz); (simp [Mo8.cells] at c0'))
  have B2 : Below g w w2 := hbx.mono (Nat.le_of_lt HR.out.lt)
  have R3 : MoAt (w2.setCell ⟨g, 0, none⟩ (.int .i64 Y)) g { m with y := Y } := R2.set 0 _ rfl
  have B3 : Below g w (w2.setCell ⟨g, 0, none⟩ (.int .i64 Y)) := bel_set B2 0 _
  generalize World.setCell w2 _ _ = w3 at R3 B3 ⊢
  clear c0 fz c0' fz' R2 B2 hbx HR
  have c0 := row_cell R3 0
  have fz := R3.froz
  simp [Mo8.cells] at c0
  go_upto_region 10 with fail
  have R4 : MoAt (w3.setCell ⟨g, 0, none⟩ (.int .i64 (-Y))) g { m with y := -Y } := R3.set 0 _ rfl
  have B4 : Below g w (w3.setCell ⟨g, 0, none⟩ (.int .i64 (-Y))) := bel_set B3 0 _
  generalize World.setCell w3 _ _ = w4 at R4 B4 ⊢
  clear c0 fz R3 B3
  have c1 := row_cell R4 1
  have fz := R4.froz
  simp [Mo8.cells] at c1
  have HR4 := Lib.hid R4
  have HB4 := Lib.hid B4
  clear R4 B4
  go_upto_region 14 with (go_at_call 130; (with_reducible refine (HM.out _).mono ?_); rintro e' w5 ⟨rfl, hbx⟩; (have R5 := HR4.out.next hbx); (have c1' := row_cell R5 1); (have fz' := R5.froz); (simp [Mo8.cells] at c1'))
  have B5 : Below g w w5 := HB4.out.trans (hbx.mono (Nat.le_of_lt HR4.out.lt))
  have R6 : MoAt (w5.setCell ⟨g, 1, none⟩ (.int .i64 M)) g { m with y := (-Y), mo := M } := R5.set 1 _ rfl
  have B6 : Below g w (w5.setCell ⟨g, 1, none⟩ (.int .i64 M)) := bel_set B5 1 _
  generalize World.setCell w5 _ _ = w6 at R6 B6 ⊢
  clear c1 fz c1' fz' R5 B5 hbx HR4 HB4
  have c0 := row_cell R6 0
  have c1 := row_cell R6 1
  have c2 := row_cell R6 2
  have fz := R6.froz
  simp [Mo8.cells] at c0 c1 c2
  have HR6 := Lib.hid R6
  have HB6 := Lib.hid B6
  clear R6 B6
  go_wp2_with fail
  go_ret2
  exact ⟨rfl, HR6.out, HB6.out⟩
set_option maxHeartbeats 2000000 in
theorem da_kma (w : World) (g : Nat) (m : Mo8) (s : ByteArray) (hs : s.size ≤ 4000000000) (h0 : 0 < s.size) (he : (s.toList == []) = false) (hc0 : (((s[0]).toNat : Nat) : Int) = 45) (S1 : ByteArray) (hS1 : s.extract 1 s.size = S1) (hss : S1.size ≤ 4000000000) (n : Nat) (hrn : ∀ w, Calls Tryz.prog 108 #[.string S1] w fun e w' => e = .returned (.int .i64 (n : Nat)) ∧ w = w') (hb : 4 ≤ (n : Int)) (hb2 : (n : Int) ≤ 9) (hb3 : (n : Int) ≤ 4) (hnl : n ≤ S1.size) (P S2 : ByteArray) (hP : S1.extract 0 n = P) (hS2 : S1.extract n S1.size = S2) (hs2 : S2.size ≤ 4000000000) (Y : Int) (hsm : ∀ w, Calls Tryz.prog 110 #[.string P] w fun e w' => e = .returned (.int .i64 Y) ∧ Below w.heap.size w w') (hY0 : -2000000000 ≤ Y) (hY1 : Y ≤ 2000000000) (l0 : 0 < S2.size) (l3 : 3 < S2.size) (hl : 6 ≤ (S2.size : Int)) (q0 : (((S2[0]).toNat : Nat) : Int) = 45) (q3 : (((S2[3]).toNat : Nat) : Int) = 45) (AQ : ByteArray) (hAQ : S2.extract 1 S2.size = AQ) (M : Int) (hM : ∀ w, Calls Tryz.prog 130 #[.string AQ, .int .i64 1, .int .i64 12] w fun e w' => e = .returned (.int .i64 M) ∧ Below w.heap.size w w') (bM : 0 ≤ M) (DQ RQ : ByteArray) (hDQ : S2.extract 4 S2.size = DQ) (hRQ : S2.extract 6 S2.size = RQ) (dm D : Int) (hdy : ∀ w, Calls Tryz.prog 131 #[.int .i64 (-Y), .int .i64 M] w fun e w' => e = .returned (.int .i64 dm) ∧ Below w.heap.size w w') (hD : ∀ w, Calls Tryz.prog 130 #[.string DQ, .int .i64 1, .int .i64 dm] w fun e w' => e = .returned (.int .i64 D) ∧ Below w.heap.size w w') (hr : MoAt w g m) :
    Calls Tryz.prog 90 #[.pointer (some ⟨g, 0, none⟩), .string s] w fun e w' => e = .returned (.tuple #[.string RQ, .bool (decide (0 < D))]) ∧ MoAt w' g { m with y := (-Y), mo := M, d := D } ∧ Below g w w' := by
  have HM := Lib.hid hM
  clear hM
  have HDY := Lib.hid hdy
  have HD := Lib.hid hD
  clear hdy hD
  have HRN := Lib.hid hrn
  clear hrn
  have HSM := Lib.hid hsm
  clear hsm
  have HR := Lib.hid hr
  clear hr
  have kY : IntKind.i64.wrap (-Y) = -Y := by rw [IntKind.wrap_i64]; omega
  go_enter Tryz.func90, Tryz.ntmps90
  go_upto_region 7 with (go_at_call 108; (with_reducible refine (HRN.out _).mono ?_); rintro e' w' ⟨rfl, rfl⟩)
  have c0 := row_cell HR.out 0
  have fz := HR.out.froz
  simp [Mo8.cells] at c0
  go_upto_region 8 with (go_at_call 110; (with_reducible refine (HSM.out _).mono ?_); rintro e' w2 ⟨rfl, hbx⟩; (have R2 := HR.out.next hbx); (have c0' := row_cell R2 0); (have fz' := R2.froz); (simp [Mo8.cells] at c0'))
  have B2 : Below g w w2 := hbx.mono (Nat.le_of_lt HR.out.lt)
  have R3 : MoAt (w2.setCell ⟨g, 0, none⟩ (.int .i64 Y)) g { m with y := Y } := R2.set 0 _ rfl
  have B3 : Below g w (w2.setCell ⟨g, 0, none⟩ (.int .i64 Y)) := bel_set B2 0 _
  generalize World.setCell w2 _ _ = w3 at R3 B3 ⊢
  clear c0 fz c0' fz' R2 B2 hbx HR
  have c0 := row_cell R3 0
  have fz := R3.froz
  simp [Mo8.cells] at c0
  go_upto_region 10 with fail
  have R4 : MoAt (w3.setCell ⟨g, 0, none⟩ (.int .i64 (-Y))) g { m with y := -Y } := R3.set 0 _ rfl
  have B4 : Below g w (w3.setCell ⟨g, 0, none⟩ (.int .i64 (-Y))) := bel_set B3 0 _
  generalize World.setCell w3 _ _ = w4 at R4 B4 ⊢
  clear c0 fz R3 B3
  have c1 := row_cell R4 1
  have fz := R4.froz
  simp [Mo8.cells] at c1
  have HR4 := Lib.hid R4
  have HB4 := Lib.hid B4
  clear R4 B4
  go_upto_region 14 with (go_at_call 130; (with_reducible refine (HM.out _).mono ?_); rintro e' w5 ⟨rfl, hbx⟩; (have R5 := HR4.out.next hbx); (have c1' := row_cell R5 1); (have fz' := R5.froz); (simp [Mo8.cells] at c1'))
  have B5 : Below g w w5 := HB4.out.trans (hbx.mono (Nat.le_of_lt HR4.out.lt))
  have R6 : MoAt (w5.setCell ⟨g, 1, none⟩ (.int .i64 M)) g { m with y := (-Y), mo := M } := R5.set 1 _ rfl
  have B6 : Below g w (w5.setCell ⟨g, 1, none⟩ (.int .i64 M)) := bel_set B5 1 _
  generalize World.setCell w5 _ _ = w6 at R6 B6 ⊢
  clear c1 fz c1' fz' R5 B5 hbx HR4 HB4
  have c0 := row_cell R6 0
  have c1 := row_cell R6 1
  have c2 := row_cell R6 2
  have fz := R6.froz
  simp [Mo8.cells] at c0 c1 c2
  have HR6 := Lib.hid R6
  have HB6 := Lib.hid B6
  clear R6 B6
  go_upto_region 16 with fail
  clear c0 c1 c2 fz
  have rx := HR6.out
  have q1 := Lw.row rx
  have x0 := fun x => (row_cell (q1 x) 0)
  have x1 := fun x => (row_cell (q1 x) 1)
  simp [Mo8.cells] at x0 x1
  clear q1 rx
  refine wp_region_lw_tail 15 (by kernel_rfl) (by kernel_rfl) ?_
  simp only [List.take_succ_cons, List.take_zero, List.drop_succ_cons, List.drop_zero]
  repeat (go_big_quiet_step (first | exact rfl | (go_at_call 131; with_reducible exact lw_call (HDY.out _)) | (go_at_call 130; with_reducible exact lw_call (HD.out _))))
  refine wpQuiet_nil ?_
  rintro ⟨w7, hb7⟩
  dsimp only
  clear x0 x1
  have R7 := HR6.out.next hb7
  have B7 : Below g w w7 := HB6.out.trans (hb7.mono (Nat.le_of_lt HR6.out.lt))
  have c2 := row_cell R7 2
  have fz := R7.froz
  simp [Mo8.cells] at c2
  have R8 : MoAt (w7.setCell ⟨g, 2, none⟩ (.int .i64 D)) g { m with y := (-Y), mo := M, d := D } := R7.set 2 _ rfl
  have B8 : Below g w (w7.setCell ⟨g, 2, none⟩ (.int .i64 D)) := bel_set B7 2 _
  go_upto_region 17 with fail
  generalize World.setCell w7 _ _ = w8 at R8 B8 ⊢
  clear c2 fz R7 B7 hb7
  have q2 := Lw.row R8
  have x2 := fun x => (row_cell (q2 x) 2)
  simp [Mo8.cells] at x2
  clear q2
  refine wp_region_lw (by kernel_rfl) (by kernel_rfl) ?_
  repeat (go_big_quiet_step (first | exact rfl))
  refine wpQuiet_nil ?_
  rintro ⟨w9, hb9⟩
  dsimp only
  have R9 := R8.next hb9
  have B9 : Below g w w9 := B8.trans (hb9.mono (Nat.le_of_lt R8.lt))
  clear x2 hb9 R8 B8
  have HR9 := Lib.hid R9
  have HB9 := Lib.hid B9
  clear R9 B9
  go_wp2_with fail
  go_ret2
  exact ⟨rfl, HR9.out, HB9.out⟩
set_option maxHeartbeats 2000000 in
theorem da_lmb (w : World) (g : Nat) (m : Mo8) (s : ByteArray) (hs : s.size ≤ 4000000000) (h0 : 0 < s.size) (he : (s.toList == []) = false) (hc0 : (((s[0]).toNat : Nat) : Int) = 45) (S1 : ByteArray) (hS1 : s.extract 1 s.size = S1) (hss : S1.size ≤ 4000000000) (n : Nat) (hrn : ∀ w, Calls Tryz.prog 108 #[.string S1] w fun e w' => e = .returned (.int .i64 (n : Nat)) ∧ w = w') (hb : 4 ≤ (n : Int)) (hb2 : (n : Int) ≤ 9) (k0 : 0 < S1.size) (hb3 : 4 < (n : Int)) (hz : (((S1[0]).toNat : Nat) : Int) ≠ 48) (hnl : n ≤ S1.size) (P S2 : ByteArray) (hP : S1.extract 0 n = P) (hS2 : S1.extract n S1.size = S2) (hs2 : S2.size ≤ 4000000000) (Y : Int) (hsm : ∀ w, Calls Tryz.prog 110 #[.string P] w fun e w' => e = .returned (.int .i64 Y) ∧ Below w.heap.size w w') (hY0 : -2000000000 ≤ Y) (hY1 : Y ≤ 2000000000) (hl : (S2.size : Int) < 6) (hr : MoAt w g m) :
    Calls Tryz.prog 90 #[.pointer (some ⟨g, 0, none⟩), .string s] w fun e w' => e = .returned (.tuple #[.string ⟨#[]⟩, .bool false]) ∧ MoAt w' g { m with y := (-Y) } ∧ Below g w w' := by
  have HRN := Lib.hid hrn
  clear hrn
  have HSM := Lib.hid hsm
  clear hsm
  have HR := Lib.hid hr
  clear hr
  have kY : IntKind.i64.wrap (-Y) = -Y := by rw [IntKind.wrap_i64]; omega
  have hzb : ((((S1[0]).toNat : Nat) : Int) == 48) = false := beq_false_of_ne hz
  go_enter Tryz.func90, Tryz.ntmps90
  go_upto_region 7 with (go_at_call 108; (with_reducible refine (HRN.out _).mono ?_); rintro e' w' ⟨rfl, rfl⟩)
  have c0 := row_cell HR.out 0
  have fz := HR.out.froz
  simp [Mo8.cells] at c0
  go_upto_region 8 with (go_at_call 110; (with_reducible refine (HSM.out _).mono ?_); rintro e' w2 ⟨rfl, hbx⟩; (have R2 := HR.out.next hbx); (have c0' := row_cell R2 0); (have fz' := R2.froz); (simp [Mo8.cells] at c0'))
  have B2 : Below g w w2 := hbx.mono (Nat.le_of_lt HR.out.lt)
  have R3 : MoAt (w2.setCell ⟨g, 0, none⟩ (.int .i64 Y)) g { m with y := Y } := R2.set 0 _ rfl
  have B3 : Below g w (w2.setCell ⟨g, 0, none⟩ (.int .i64 Y)) := bel_set B2 0 _
  generalize World.setCell w2 _ _ = w3 at R3 B3 ⊢
  clear c0 fz c0' fz' R2 B2 hbx HR
  have c0 := row_cell R3 0
  have fz := R3.froz
  simp [Mo8.cells] at c0
  go_upto_region 10 with fail
  have R4 : MoAt (w3.setCell ⟨g, 0, none⟩ (.int .i64 (-Y))) g { m with y := -Y } := R3.set 0 _ rfl
  have B4 : Below g w (w3.setCell ⟨g, 0, none⟩ (.int .i64 (-Y))) := bel_set B3 0 _
  generalize World.setCell w3 _ _ = w4 at R4 B4 ⊢
  clear c0 fz R3 B3
  have HR4 := Lib.hid R4
  have HB4 := Lib.hid B4
  clear R4 B4
  go_wp2_with fail
  go_ret2
  exact ⟨rfl, HR4.out, HB4.out⟩
set_option maxHeartbeats 2000000 in
theorem da_cmb (w : World) (g : Nat) (m : Mo8) (s : ByteArray) (hs : s.size ≤ 4000000000) (h0 : 0 < s.size) (he : (s.toList == []) = false) (hc0 : (((s[0]).toNat : Nat) : Int) = 45) (S1 : ByteArray) (hS1 : s.extract 1 s.size = S1) (hss : S1.size ≤ 4000000000) (n : Nat) (hrn : ∀ w, Calls Tryz.prog 108 #[.string S1] w fun e w' => e = .returned (.int .i64 (n : Nat)) ∧ w = w') (hb : 4 ≤ (n : Int)) (hb2 : (n : Int) ≤ 9) (k0 : 0 < S1.size) (hb3 : 4 < (n : Int)) (hz : (((S1[0]).toNat : Nat) : Int) ≠ 48) (hnl : n ≤ S1.size) (P S2 : ByteArray) (hP : S1.extract 0 n = P) (hS2 : S1.extract n S1.size = S2) (hs2 : S2.size ≤ 4000000000) (Y : Int) (hsm : ∀ w, Calls Tryz.prog 110 #[.string P] w fun e w' => e = .returned (.int .i64 Y) ∧ Below w.heap.size w w') (hY0 : -2000000000 ≤ Y) (hY1 : Y ≤ 2000000000) (l0 : 0 < S2.size) (l3 : 3 < S2.size) (hl : 6 ≤ (S2.size : Int)) (q0 : (((S2[0]).toNat : Nat) : Int) ≠ 45) (hr : MoAt w g m) :
    Calls Tryz.prog 90 #[.pointer (some ⟨g, 0, none⟩), .string s] w fun e w' => e = .returned (.tuple #[.string ⟨#[]⟩, .bool false]) ∧ MoAt w' g { m with y := (-Y) } ∧ Below g w w' := by
  have q0b : ((((S2[0]).toNat : Nat) : Int) != 45) = true := bne_iff_ne.2 q0
  have HRN := Lib.hid hrn
  clear hrn
  have HSM := Lib.hid hsm
  clear hsm
  have HR := Lib.hid hr
  clear hr
  have kY : IntKind.i64.wrap (-Y) = -Y := by rw [IntKind.wrap_i64]; omega
  have hzb : ((((S1[0]).toNat : Nat) : Int) == 48) = false := beq_false_of_ne hz
  go_enter Tryz.func90, Tryz.ntmps90
  go_upto_region 7 with (go_at_call 108; (with_reducible refine (HRN.out _).mono ?_); rintro e' w' ⟨rfl, rfl⟩)
  have c0 := row_cell HR.out 0
  have fz := HR.out.froz
  simp [Mo8.cells] at c0
  go_upto_region 8 with (go_at_call 110; (with_reducible refine (HSM.out _).mono ?_); rintro e' w2 ⟨rfl, hbx⟩; (have R2 := HR.out.next hbx); (have c0' := row_cell R2 0); (have fz' := R2.froz); (simp [Mo8.cells] at c0'))
  have B2 : Below g w w2 := hbx.mono (Nat.le_of_lt HR.out.lt)
  have R3 : MoAt (w2.setCell ⟨g, 0, none⟩ (.int .i64 Y)) g { m with y := Y } := R2.set 0 _ rfl
  have B3 : Below g w (w2.setCell ⟨g, 0, none⟩ (.int .i64 Y)) := bel_set B2 0 _
  generalize World.setCell w2 _ _ = w3 at R3 B3 ⊢
  clear c0 fz c0' fz' R2 B2 hbx HR
  have c0 := row_cell R3 0
  have fz := R3.froz
  simp [Mo8.cells] at c0
  go_upto_region 10 with fail
  have R4 : MoAt (w3.setCell ⟨g, 0, none⟩ (.int .i64 (-Y))) g { m with y := -Y } := R3.set 0 _ rfl
  have B4 : Below g w (w3.setCell ⟨g, 0, none⟩ (.int .i64 (-Y))) := bel_set B3 0 _
  generalize World.setCell w3 _ _ = w4 at R4 B4 ⊢
  clear c0 fz R3 B3
  have HR4 := Lib.hid R4
  have HB4 := Lib.hid B4
  clear R4 B4
  go_wp2_with fail
  go_ret2
  exact ⟨rfl, HR4.out, HB4.out⟩
set_option maxHeartbeats 2000000 in
theorem da_dmb (w : World) (g : Nat) (m : Mo8) (s : ByteArray) (hs : s.size ≤ 4000000000) (h0 : 0 < s.size) (he : (s.toList == []) = false) (hc0 : (((s[0]).toNat : Nat) : Int) = 45) (S1 : ByteArray) (hS1 : s.extract 1 s.size = S1) (hss : S1.size ≤ 4000000000) (n : Nat) (hrn : ∀ w, Calls Tryz.prog 108 #[.string S1] w fun e w' => e = .returned (.int .i64 (n : Nat)) ∧ w = w') (hb : 4 ≤ (n : Int)) (hb2 : (n : Int) ≤ 9) (k0 : 0 < S1.size) (hb3 : 4 < (n : Int)) (hz : (((S1[0]).toNat : Nat) : Int) ≠ 48) (hnl : n ≤ S1.size) (P S2 : ByteArray) (hP : S1.extract 0 n = P) (hS2 : S1.extract n S1.size = S2) (hs2 : S2.size ≤ 4000000000) (Y : Int) (hsm : ∀ w, Calls Tryz.prog 110 #[.string P] w fun e w' => e = .returned (.int .i64 Y) ∧ Below w.heap.size w w') (hY0 : -2000000000 ≤ Y) (hY1 : Y ≤ 2000000000) (l0 : 0 < S2.size) (l3 : 3 < S2.size) (hl : 6 ≤ (S2.size : Int)) (q0 : (((S2[0]).toNat : Nat) : Int) = 45) (q3 : (((S2[3]).toNat : Nat) : Int) ≠ 45) (hr : MoAt w g m) :
    Calls Tryz.prog 90 #[.pointer (some ⟨g, 0, none⟩), .string s] w fun e w' => e = .returned (.tuple #[.string ⟨#[]⟩, .bool false]) ∧ MoAt w' g { m with y := (-Y) } ∧ Below g w w' := by
  have q3b : ((((S2[3]).toNat : Nat) : Int) != 45) = true := bne_iff_ne.2 q3
  have HRN := Lib.hid hrn
  clear hrn
  have HSM := Lib.hid hsm
  clear hsm
  have HR := Lib.hid hr
  clear hr
  have kY : IntKind.i64.wrap (-Y) = -Y := by rw [IntKind.wrap_i64]; omega
  have hzb : ((((S1[0]).toNat : Nat) : Int) == 48) = false := beq_false_of_ne hz
  go_enter Tryz.func90, Tryz.ntmps90
  go_upto_region 7 with (go_at_call 108; (with_reducible refine (HRN.out _).mono ?_); rintro e' w' ⟨rfl, rfl⟩)
  have c0 := row_cell HR.out 0
  have fz := HR.out.froz
  simp [Mo8.cells] at c0
  go_upto_region 8 with (go_at_call 110; (with_reducible refine (HSM.out _).mono ?_); rintro e' w2 ⟨rfl, hbx⟩; (have R2 := HR.out.next hbx); (have c0' := row_cell R2 0); (have fz' := R2.froz); (simp [Mo8.cells] at c0'))
  have B2 : Below g w w2 := hbx.mono (Nat.le_of_lt HR.out.lt)
  have R3 : MoAt (w2.setCell ⟨g, 0, none⟩ (.int .i64 Y)) g { m with y := Y } := R2.set 0 _ rfl
  have B3 : Below g w (w2.setCell ⟨g, 0, none⟩ (.int .i64 Y)) := bel_set B2 0 _
  generalize World.setCell w2 _ _ = w3 at R3 B3 ⊢
  clear c0 fz c0' fz' R2 B2 hbx HR
  have c0 := row_cell R3 0
  have fz := R3.froz
  simp [Mo8.cells] at c0
  go_upto_region 10 with fail
  have R4 : MoAt (w3.setCell ⟨g, 0, none⟩ (.int .i64 (-Y))) g { m with y := -Y } := R3.set 0 _ rfl
  have B4 : Below g w (w3.setCell ⟨g, 0, none⟩ (.int .i64 (-Y))) := bel_set B3 0 _
  generalize World.setCell w3 _ _ = w4 at R4 B4 ⊢
  clear c0 fz R3 B3
  have HR4 := Lib.hid R4
  have HB4 := Lib.hid B4
  clear R4 B4
  go_wp2_with fail
  go_ret2
  exact ⟨rfl, HR4.out, HB4.out⟩
set_option maxHeartbeats 2000000 in
theorem da_mmb (w : World) (g : Nat) (m : Mo8) (s : ByteArray) (hs : s.size ≤ 4000000000) (h0 : 0 < s.size) (he : (s.toList == []) = false) (hc0 : (((s[0]).toNat : Nat) : Int) = 45) (S1 : ByteArray) (hS1 : s.extract 1 s.size = S1) (hss : S1.size ≤ 4000000000) (n : Nat) (hrn : ∀ w, Calls Tryz.prog 108 #[.string S1] w fun e w' => e = .returned (.int .i64 (n : Nat)) ∧ w = w') (hb : 4 ≤ (n : Int)) (hb2 : (n : Int) ≤ 9) (k0 : 0 < S1.size) (hb3 : 4 < (n : Int)) (hz : (((S1[0]).toNat : Nat) : Int) ≠ 48) (hnl : n ≤ S1.size) (P S2 : ByteArray) (hP : S1.extract 0 n = P) (hS2 : S1.extract n S1.size = S2) (hs2 : S2.size ≤ 4000000000) (Y : Int) (hsm : ∀ w, Calls Tryz.prog 110 #[.string P] w fun e w' => e = .returned (.int .i64 Y) ∧ Below w.heap.size w w') (hY0 : -2000000000 ≤ Y) (hY1 : Y ≤ 2000000000) (l0 : 0 < S2.size) (l3 : 3 < S2.size) (hl : 6 ≤ (S2.size : Int)) (q0 : (((S2[0]).toNat : Nat) : Int) = 45) (q3 : (((S2[3]).toNat : Nat) : Int) = 45) (AQ : ByteArray) (hAQ : S2.extract 1 S2.size = AQ) (M : Int) (hM : ∀ w, Calls Tryz.prog 130 #[.string AQ, .int .i64 1, .int .i64 12] w fun e w' => e = .returned (.int .i64 M) ∧ Below w.heap.size w w') (bM : M < 0) (hr : MoAt w g m) :
    Calls Tryz.prog 90 #[.pointer (some ⟨g, 0, none⟩), .string s] w fun e w' => e = .returned (.tuple #[.string ⟨#[]⟩, .bool false]) ∧ MoAt w' g { m with y := (-Y), mo := M } ∧ Below g w w' := by
  have HM := Lib.hid hM
  clear hM
  have HRN := Lib.hid hrn
  clear hrn
  have HSM := Lib.hid hsm
  clear hsm
  have HR := Lib.hid hr
  clear hr
  have kY : IntKind.i64.wrap (-Y) = -Y := by rw [IntKind.wrap_i64]; omega
  have hzb : ((((S1[0]).toNat : Nat) : Int) == 48) = false := beq_false_of_ne hz
  go_enter Tryz.func90, Tryz.ntmps90
  go_upto_region 7 with (go_at_call 108; (with_reducible refine (HRN.out _).mono ?_); rintro e' w' ⟨rfl, rfl⟩)
  have c0 := row_cell HR.out 0
  have fz := HR.out.froz
  simp [Mo8.cells] at c0
  go_upto_region 8 with (go_at_call 110; (with_reducible refine (HSM.out _).mono ?_); rintro e' w2 ⟨rfl, hbx⟩; (have R2 := HR.out.next hbx); (have c0' := row_cell R2 0); (have fz' := R2.froz); (simp [Mo8.cells] at c0'))
  have B2 : Below g w w2 := hbx.mono (Nat.le_of_lt HR.out.lt)
  have R3 : MoAt (w2.setCell ⟨g, 0, none⟩ (.int .i64 Y)) g { m with y := Y } := R2.set 0 _ rfl
  have B3 : Below g w (w2.setCell ⟨g, 0, none⟩ (.int .i64 Y)) := bel_set B2 0 _
  generalize World.setCell w2 _ _ = w3 at R3 B3 ⊢
  clear c0 fz c0' fz' R2 B2 hbx HR
  have c0 := row_cell R3 0
  have fz := R3.froz
  simp [Mo8.cells] at c0
  go_upto_region 10 with fail
  have R4 : MoAt (w3.setCell ⟨g, 0, none⟩ (.int .i64 (-Y))) g { m with y := -Y } := R3.set 0 _ rfl
  have B4 : Below g w (w3.setCell ⟨g, 0, none⟩ (.int .i64 (-Y))) := bel_set B3 0 _
  generalize World.setCell w3 _ _ = w4 at R4 B4 ⊢
  clear c0 fz R3 B3
  have c1 := row_cell R4 1
  have fz := R4.froz
  simp [Mo8.cells] at c1
  have HR4 := Lib.hid R4
  have HB4 := Lib.hid B4
  clear R4 B4
  go_upto_region 14 with (go_at_call 130; (with_reducible refine (HM.out _).mono ?_); rintro e' w5 ⟨rfl, hbx⟩; (have R5 := HR4.out.next hbx); (have c1' := row_cell R5 1); (have fz' := R5.froz); (simp [Mo8.cells] at c1'))
  have B5 : Below g w w5 := HB4.out.trans (hbx.mono (Nat.le_of_lt HR4.out.lt))
  have R6 : MoAt (w5.setCell ⟨g, 1, none⟩ (.int .i64 M)) g { m with y := (-Y), mo := M } := R5.set 1 _ rfl
  have B6 : Below g w (w5.setCell ⟨g, 1, none⟩ (.int .i64 M)) := bel_set B5 1 _
  generalize World.setCell w5 _ _ = w6 at R6 B6 ⊢
  clear c1 fz c1' fz' R5 B5 hbx HR4 HB4
  have c0 := row_cell R6 0
  have c1 := row_cell R6 1
  have c2 := row_cell R6 2
  have fz := R6.froz
  simp [Mo8.cells] at c0 c1 c2
  have HR6 := Lib.hid R6
  have HB6 := Lib.hid B6
  clear R6 B6
  go_wp2_with fail
  go_ret2
  exact ⟨rfl, HR6.out, HB6.out⟩
set_option maxHeartbeats 2000000 in
theorem da_kmb (w : World) (g : Nat) (m : Mo8) (s : ByteArray) (hs : s.size ≤ 4000000000) (h0 : 0 < s.size) (he : (s.toList == []) = false) (hc0 : (((s[0]).toNat : Nat) : Int) = 45) (S1 : ByteArray) (hS1 : s.extract 1 s.size = S1) (hss : S1.size ≤ 4000000000) (n : Nat) (hrn : ∀ w, Calls Tryz.prog 108 #[.string S1] w fun e w' => e = .returned (.int .i64 (n : Nat)) ∧ w = w') (hb : 4 ≤ (n : Int)) (hb2 : (n : Int) ≤ 9) (k0 : 0 < S1.size) (hb3 : 4 < (n : Int)) (hz : (((S1[0]).toNat : Nat) : Int) ≠ 48) (hnl : n ≤ S1.size) (P S2 : ByteArray) (hP : S1.extract 0 n = P) (hS2 : S1.extract n S1.size = S2) (hs2 : S2.size ≤ 4000000000) (Y : Int) (hsm : ∀ w, Calls Tryz.prog 110 #[.string P] w fun e w' => e = .returned (.int .i64 Y) ∧ Below w.heap.size w w') (hY0 : -2000000000 ≤ Y) (hY1 : Y ≤ 2000000000) (l0 : 0 < S2.size) (l3 : 3 < S2.size) (hl : 6 ≤ (S2.size : Int)) (q0 : (((S2[0]).toNat : Nat) : Int) = 45) (q3 : (((S2[3]).toNat : Nat) : Int) = 45) (AQ : ByteArray) (hAQ : S2.extract 1 S2.size = AQ) (M : Int) (hM : ∀ w, Calls Tryz.prog 130 #[.string AQ, .int .i64 1, .int .i64 12] w fun e w' => e = .returned (.int .i64 M) ∧ Below w.heap.size w w') (bM : 0 ≤ M) (DQ RQ : ByteArray) (hDQ : S2.extract 4 S2.size = DQ) (hRQ : S2.extract 6 S2.size = RQ) (dm D : Int) (hdy : ∀ w, Calls Tryz.prog 131 #[.int .i64 (-Y), .int .i64 M] w fun e w' => e = .returned (.int .i64 dm) ∧ Below w.heap.size w w') (hD : ∀ w, Calls Tryz.prog 130 #[.string DQ, .int .i64 1, .int .i64 dm] w fun e w' => e = .returned (.int .i64 D) ∧ Below w.heap.size w w') (hr : MoAt w g m) :
    Calls Tryz.prog 90 #[.pointer (some ⟨g, 0, none⟩), .string s] w fun e w' => e = .returned (.tuple #[.string RQ, .bool (decide (0 < D))]) ∧ MoAt w' g { m with y := (-Y), mo := M, d := D } ∧ Below g w w' := by
  have HM := Lib.hid hM
  clear hM
  have HDY := Lib.hid hdy
  have HD := Lib.hid hD
  clear hdy hD
  have HRN := Lib.hid hrn
  clear hrn
  have HSM := Lib.hid hsm
  clear hsm
  have HR := Lib.hid hr
  clear hr
  have kY : IntKind.i64.wrap (-Y) = -Y := by rw [IntKind.wrap_i64]; omega
  have hzb : ((((S1[0]).toNat : Nat) : Int) == 48) = false := beq_false_of_ne hz
  go_enter Tryz.func90, Tryz.ntmps90
  go_upto_region 7 with (go_at_call 108; (with_reducible refine (HRN.out _).mono ?_); rintro e' w' ⟨rfl, rfl⟩)
  have c0 := row_cell HR.out 0
  have fz := HR.out.froz
  simp [Mo8.cells] at c0
  go_upto_region 8 with (go_at_call 110; (with_reducible refine (HSM.out _).mono ?_); rintro e' w2 ⟨rfl, hbx⟩; (have R2 := HR.out.next hbx); (have c0' := row_cell R2 0); (have fz' := R2.froz); (simp [Mo8.cells] at c0'))
  have B2 : Below g w w2 := hbx.mono (Nat.le_of_lt HR.out.lt)
  have R3 : MoAt (w2.setCell ⟨g, 0, none⟩ (.int .i64 Y)) g { m with y := Y } := R2.set 0 _ rfl
  have B3 : Below g w (w2.setCell ⟨g, 0, none⟩ (.int .i64 Y)) := bel_set B2 0 _
  generalize World.setCell w2 _ _ = w3 at R3 B3 ⊢
  clear c0 fz c0' fz' R2 B2 hbx HR
  have c0 := row_cell R3 0
  have fz := R3.froz
  simp [Mo8.cells] at c0
  go_upto_region 10 with fail
  have R4 : MoAt (w3.setCell ⟨g, 0, none⟩ (.int .i64 (-Y))) g { m with y := -Y } := R3.set 0 _ rfl
  have B4 : Below g w (w3.setCell ⟨g, 0, none⟩ (.int .i64 (-Y))) := bel_set B3 0 _
  generalize World.setCell w3 _ _ = w4 at R4 B4 ⊢
  clear c0 fz R3 B3
  have c1 := row_cell R4 1
  have fz := R4.froz
  simp [Mo8.cells] at c1
  have HR4 := Lib.hid R4
  have HB4 := Lib.hid B4
  clear R4 B4
  go_upto_region 14 with (go_at_call 130; (with_reducible refine (HM.out _).mono ?_); rintro e' w5 ⟨rfl, hbx⟩; (have R5 := HR4.out.next hbx); (have c1' := row_cell R5 1); (have fz' := R5.froz); (simp [Mo8.cells] at c1'))
  have B5 : Below g w w5 := HB4.out.trans (hbx.mono (Nat.le_of_lt HR4.out.lt))
  have R6 : MoAt (w5.setCell ⟨g, 1, none⟩ (.int .i64 M)) g { m with y := (-Y), mo := M } := R5.set 1 _ rfl
  have B6 : Below g w (w5.setCell ⟨g, 1, none⟩ (.int .i64 M)) := bel_set B5 1 _
  generalize World.setCell w5 _ _ = w6 at R6 B6 ⊢
  clear c1 fz c1' fz' R5 B5 hbx HR4 HB4
  have c0 := row_cell R6 0
  have c1 := row_cell R6 1
  have c2 := row_cell R6 2
  have fz := R6.froz
  simp [Mo8.cells] at c0 c1 c2
  have HR6 := Lib.hid R6
  have HB6 := Lib.hid B6
  clear R6 B6
  go_upto_region 16 with fail
  clear c0 c1 c2 fz
  have rx := HR6.out
  have q1 := Lw.row rx
  have x0 := fun x => (row_cell (q1 x) 0)
  have x1 := fun x => (row_cell (q1 x) 1)
  simp [Mo8.cells] at x0 x1
  clear q1 rx
  refine wp_region_lw_tail 15 (by kernel_rfl) (by kernel_rfl) ?_
  simp only [List.take_succ_cons, List.take_zero, List.drop_succ_cons, List.drop_zero]
  repeat (go_big_quiet_step (first | exact rfl | (go_at_call 131; with_reducible exact lw_call (HDY.out _)) | (go_at_call 130; with_reducible exact lw_call (HD.out _))))
  refine wpQuiet_nil ?_
  rintro ⟨w7, hb7⟩
  dsimp only
  clear x0 x1
  have R7 := HR6.out.next hb7
  have B7 : Below g w w7 := HB6.out.trans (hb7.mono (Nat.le_of_lt HR6.out.lt))
  have c2 := row_cell R7 2
  have fz := R7.froz
  simp [Mo8.cells] at c2
  have R8 : MoAt (w7.setCell ⟨g, 2, none⟩ (.int .i64 D)) g { m with y := (-Y), mo := M, d := D } := R7.set 2 _ rfl
  have B8 : Below g w (w7.setCell ⟨g, 2, none⟩ (.int .i64 D)) := bel_set B7 2 _
  go_upto_region 17 with fail
  generalize World.setCell w7 _ _ = w8 at R8 B8 ⊢
  clear c2 fz R7 B7 hb7
  have q2 := Lw.row R8
  have x2 := fun x => (row_cell (q2 x) 2)
  simp [Mo8.cells] at x2
  clear q2
  refine wp_region_lw (by kernel_rfl) (by kernel_rfl) ?_
  repeat (go_big_quiet_step (first | exact rfl))
  refine wpQuiet_nil ?_
  rintro ⟨w9, hb9⟩
  dsimp only
  have R9 := R8.next hb9
  have B9 : Below g w w9 := B8.trans (hb9.mono (Nat.le_of_lt R8.lt))
  clear x2 hb9 R8 B8
  have HR9 := Lib.hid R9
  have HB9 := Lib.hid B9
  clear R9 B9
  go_wp2_with fail
  go_ret2
  exact ⟨rfl, HR9.out, HB9.out⟩
set_option maxHeartbeats 2000000 in
theorem da_lop (w : World) (g : Nat) (m : Mo8) (s : ByteArray) (hs : s.size ≤ 4000000000) (h0 : 0 < s.size) (he : (s.toList == []) = false) (hc0 : (((s[0]).toNat : Nat) : Int) ≠ 45) (n : Nat) (hrn : ∀ w, Calls Tryz.prog 108 #[.string s] w fun e w' => e = .returned (.int .i64 (n : Nat)) ∧ w = w') (hb : (n : Int) < 4) (hr : MoAt w g m) :
    Calls Tryz.prog 90 #[.pointer (some ⟨g, 0, none⟩), .string s] w fun e w' => e = .returned (.tuple #[.string ⟨#[]⟩, .bool false]) ∧ w = w' := by
  have HRN := Lib.hid hrn
  clear hrn
  have hc0b : ((((s[0]).toNat : Nat) : Int) == 45) = false := beq_false_of_ne hc0
  clear hr
  go_enter Tryz.func90, Tryz.ntmps90
  go_wp2_with (go_at_call 108; (with_reducible refine (HRN.out _).mono ?_); rintro e' w' ⟨rfl, rfl⟩)
  go_ret2
  exact ⟨rfl, rfl⟩
set_option maxHeartbeats 2000000 in
theorem da_hip (w : World) (g : Nat) (m : Mo8) (s : ByteArray) (hs : s.size ≤ 4000000000) (h0 : 0 < s.size) (he : (s.toList == []) = false) (hc0 : (((s[0]).toNat : Nat) : Int) ≠ 45) (n : Nat) (hrn : ∀ w, Calls Tryz.prog 108 #[.string s] w fun e w' => e = .returned (.int .i64 (n : Nat)) ∧ w = w') (hb : 9 < (n : Int)) (hb2 : 4 ≤ (n : Int)) (hr : MoAt w g m) :
    Calls Tryz.prog 90 #[.pointer (some ⟨g, 0, none⟩), .string s] w fun e w' => e = .returned (.tuple #[.string ⟨#[]⟩, .bool false]) ∧ w = w' := by
  have HRN := Lib.hid hrn
  clear hrn
  have hc0b : ((((s[0]).toNat : Nat) : Int) == 45) = false := beq_false_of_ne hc0
  clear hr
  go_enter Tryz.func90, Tryz.ntmps90
  go_wp2_with (go_at_call 108; (with_reducible refine (HRN.out _).mono ?_); rintro e' w' ⟨rfl, rfl⟩)
  go_ret2
  exact ⟨rfl, rfl⟩
set_option maxHeartbeats 2000000 in
theorem da_zp (w : World) (g : Nat) (m : Mo8) (s : ByteArray) (hs : s.size ≤ 4000000000) (h0 : 0 < s.size) (he : (s.toList == []) = false) (hc0 : (((s[0]).toNat : Nat) : Int) ≠ 45) (n : Nat) (hrn : ∀ w, Calls Tryz.prog 108 #[.string s] w fun e w' => e = .returned (.int .i64 (n : Nat)) ∧ w = w') (k0 : 0 < s.size) (hb : (n : Int) ≤ 9) (hb2 : 4 < (n : Int)) (hb3 : 4 ≤ (n : Int)) (hz : (((s[0]).toNat : Nat) : Int) = 48) (hr : MoAt w g m) :
    Calls Tryz.prog 90 #[.pointer (some ⟨g, 0, none⟩), .string s] w fun e w' => e = .returned (.tuple #[.string ⟨#[]⟩, .bool false]) ∧ w = w' := by
  have HRN := Lib.hid hrn
  clear hrn
  have hc0b : ((((s[0]).toNat : Nat) : Int) == 45) = false := beq_false_of_ne hc0
  clear hr
  go_enter Tryz.func90, Tryz.ntmps90
  go_wp2_with (go_at_call 108; (with_reducible refine (HRN.out _).mono ?_); rintro e' w' ⟨rfl, rfl⟩)
  go_ret2
  exact ⟨rfl, rfl⟩
set_option maxHeartbeats 2000000 in
theorem da_lpa (w : World) (g : Nat) (m : Mo8) (s : ByteArray) (hs : s.size ≤ 4000000000) (h0 : 0 < s.size) (he : (s.toList == []) = false) (hc0 : (((s[0]).toNat : Nat) : Int) ≠ 45) (n : Nat) (hrn : ∀ w, Calls Tryz.prog 108 #[.string s] w fun e w' => e = .returned (.int .i64 (n : Nat)) ∧ w = w') (hb : 4 ≤ (n : Int)) (hb2 : (n : Int) ≤ 9) (hb3 : (n : Int) ≤ 4) (hnl : n ≤ s.size) (P S2 : ByteArray) (hP : s.extract 0 n = P) (hS2 : s.extract n s.size = S2) (hs2 : S2.size ≤ 4000000000) (Y : Int) (hsm : ∀ w, Calls Tryz.prog 110 #[.string P] w fun e w' => e = .returned (.int .i64 Y) ∧ Below w.heap.size w w') (hl : (S2.size : Int) < 6) (hr : MoAt w g m) :
    Calls Tryz.prog 90 #[.pointer (some ⟨g, 0, none⟩), .string s] w fun e w' => e = .returned (.tuple #[.string ⟨#[]⟩, .bool false]) ∧ MoAt w' g { m with y := Y } ∧ Below g w w' := by
  have HRN := Lib.hid hrn
  clear hrn
  have HSM := Lib.hid hsm
  clear hsm
  have HR := Lib.hid hr
  clear hr
  have hc0b : ((((s[0]).toNat : Nat) : Int) == 45) = false := beq_false_of_ne hc0
  go_enter Tryz.func90, Tryz.ntmps90
  go_upto_region 7 with (go_at_call 108; (with_reducible refine (HRN.out _).mono ?_); rintro e' w' ⟨rfl, rfl⟩)
  have c0 := row_cell HR.out 0
  have fz := HR.out.froz
  simp [Mo8.cells] at c0
  go_upto_region 8 with (go_at_call 110; (with_reducible refine (HSM.out _).mono ?_); rintro e' w2 ⟨rfl, hbx⟩; (have R2 := HR.out.next hbx); (have c0' := row_cell R2 0); (have fz' := R2.froz); (simp [Mo8.cells] at c0'))
  have B2 : Below g w w2 := hbx.mono (Nat.le_of_lt HR.out.lt)
  have R3 : MoAt (w2.setCell ⟨g, 0, none⟩ (.int .i64 Y)) g { m with y := Y } := R2.set 0 _ rfl
  have B3 : Below g w (w2.setCell ⟨g, 0, none⟩ (.int .i64 Y)) := bel_set B2 0 _
  generalize World.setCell w2 _ _ = w3 at R3 B3 ⊢
  clear c0 fz c0' fz' R2 B2 hbx HR
  have R4 := R3
  have B4 := B3
  clear R3 B3
  have HR4 := Lib.hid R4
  have HB4 := Lib.hid B4
  clear R4 B4
  go_wp2_with fail
  go_ret2
  exact ⟨rfl, HR4.out, HB4.out⟩
set_option maxHeartbeats 2000000 in
theorem da_cpa (w : World) (g : Nat) (m : Mo8) (s : ByteArray) (hs : s.size ≤ 4000000000) (h0 : 0 < s.size) (he : (s.toList == []) = false) (hc0 : (((s[0]).toNat : Nat) : Int) ≠ 45) (n : Nat) (hrn : ∀ w, Calls Tryz.prog 108 #[.string s] w fun e w' => e = .returned (.int .i64 (n : Nat)) ∧ w = w') (hb : 4 ≤ (n : Int)) (hb2 : (n : Int) ≤ 9) (hb3 : (n : Int) ≤ 4) (hnl : n ≤ s.size) (P S2 : ByteArray) (hP : s.extract 0 n = P) (hS2 : s.extract n s.size = S2) (hs2 : S2.size ≤ 4000000000) (Y : Int) (hsm : ∀ w, Calls Tryz.prog 110 #[.string P] w fun e w' => e = .returned (.int .i64 Y) ∧ Below w.heap.size w w') (l0 : 0 < S2.size) (l3 : 3 < S2.size) (hl : 6 ≤ (S2.size : Int)) (q0 : (((S2[0]).toNat : Nat) : Int) ≠ 45) (hr : MoAt w g m) :
    Calls Tryz.prog 90 #[.pointer (some ⟨g, 0, none⟩), .string s] w fun e w' => e = .returned (.tuple #[.string ⟨#[]⟩, .bool false]) ∧ MoAt w' g { m with y := Y } ∧ Below g w w' := by
  have q0b : ((((S2[0]).toNat : Nat) : Int) != 45) = true := bne_iff_ne.2 q0
  have HRN := Lib.hid hrn
  clear hrn
  have HSM := Lib.hid hsm
  clear hsm
  have HR := Lib.hid hr
  clear hr
  have hc0b : ((((s[0]).toNat : Nat) : Int) == 45) = false := beq_false_of_ne hc0
  go_enter Tryz.func90, Tryz.ntmps90
  go_upto_region 7 with (go_at_call 108; (with_reducible refine (HRN.out _).mono ?_); rintro e' w' ⟨rfl, rfl⟩)
  have c0 := row_cell HR.out 0
  have fz := HR.out.froz
  simp [Mo8.cells] at c0
  go_upto_region 8 with (go_at_call 110; (with_reducible refine (HSM.out _).mono ?_); rintro e' w2 ⟨rfl, hbx⟩; (have R2 := HR.out.next hbx); (have c0' := row_cell R2 0); (have fz' := R2.froz); (simp [Mo8.cells] at c0'))
  have B2 : Below g w w2 := hbx.mono (Nat.le_of_lt HR.out.lt)
  have R3 : MoAt (w2.setCell ⟨g, 0, none⟩ (.int .i64 Y)) g { m with y := Y } := R2.set 0 _ rfl
  have B3 : Below g w (w2.setCell ⟨g, 0, none⟩ (.int .i64 Y)) := bel_set B2 0 _
  generalize World.setCell w2 _ _ = w3 at R3 B3 ⊢
  clear c0 fz c0' fz' R2 B2 hbx HR
  have R4 := R3
  have B4 := B3
  clear R3 B3
  have HR4 := Lib.hid R4
  have HB4 := Lib.hid B4
  clear R4 B4
  go_wp2_with fail
  go_ret2
  exact ⟨rfl, HR4.out, HB4.out⟩
set_option maxHeartbeats 2000000 in
theorem da_dpa (w : World) (g : Nat) (m : Mo8) (s : ByteArray) (hs : s.size ≤ 4000000000) (h0 : 0 < s.size) (he : (s.toList == []) = false) (hc0 : (((s[0]).toNat : Nat) : Int) ≠ 45) (n : Nat) (hrn : ∀ w, Calls Tryz.prog 108 #[.string s] w fun e w' => e = .returned (.int .i64 (n : Nat)) ∧ w = w') (hb : 4 ≤ (n : Int)) (hb2 : (n : Int) ≤ 9) (hb3 : (n : Int) ≤ 4) (hnl : n ≤ s.size) (P S2 : ByteArray) (hP : s.extract 0 n = P) (hS2 : s.extract n s.size = S2) (hs2 : S2.size ≤ 4000000000) (Y : Int) (hsm : ∀ w, Calls Tryz.prog 110 #[.string P] w fun e w' => e = .returned (.int .i64 Y) ∧ Below w.heap.size w w') (l0 : 0 < S2.size) (l3 : 3 < S2.size) (hl : 6 ≤ (S2.size : Int)) (q0 : (((S2[0]).toNat : Nat) : Int) = 45) (q3 : (((S2[3]).toNat : Nat) : Int) ≠ 45) (hr : MoAt w g m) :
    Calls Tryz.prog 90 #[.pointer (some ⟨g, 0, none⟩), .string s] w fun e w' => e = .returned (.tuple #[.string ⟨#[]⟩, .bool false]) ∧ MoAt w' g { m with y := Y } ∧ Below g w w' := by
  have q3b : ((((S2[3]).toNat : Nat) : Int) != 45) = true := bne_iff_ne.2 q3
  have HRN := Lib.hid hrn
  clear hrn
  have HSM := Lib.hid hsm
  clear hsm
  have HR := Lib.hid hr
  clear hr
  have hc0b : ((((s[0]).toNat : Nat) : Int) == 45) = false := beq_false_of_ne hc0
  go_enter Tryz.func90, Tryz.ntmps90
  go_upto_region 7 with (go_at_call 108; (with_reducible refine (HRN.out _).mono ?_); rintro e' w' ⟨rfl, rfl⟩)
  have c0 := row_cell HR.out 0
  have fz := HR.out.froz
  simp [Mo8.cells] at c0
  go_upto_region 8 with (go_at_call 110; (with_reducible refine (HSM.out _).mono ?_); rintro e' w2 ⟨rfl, hbx⟩; (have R2 := HR.out.next hbx); (have c0' := row_cell R2 0); (have fz' := R2.froz); (simp [Mo8.cells] at c0'))
  have B2 : Below g w w2 := hbx.mono (Nat.le_of_lt HR.out.lt)
  have R3 : MoAt (w2.setCell ⟨g, 0, none⟩ (.int .i64 Y)) g { m with y := Y } := R2.set 0 _ rfl
  have B3 : Below g w (w2.setCell ⟨g, 0, none⟩ (.int .i64 Y)) := bel_set B2 0 _
  generalize World.setCell w2 _ _ = w3 at R3 B3 ⊢
  clear c0 fz c0' fz' R2 B2 hbx HR
  have R4 := R3
  have B4 := B3
  clear R3 B3
  have HR4 := Lib.hid R4
  have HB4 := Lib.hid B4
  clear R4 B4
  go_wp2_with fail
  go_ret2
  exact ⟨rfl, HR4.out, HB4.out⟩
set_option maxHeartbeats 2000000 in
theorem da_mpa (w : World) (g : Nat) (m : Mo8) (s : ByteArray) (hs : s.size ≤ 4000000000) (h0 : 0 < s.size) (he : (s.toList == []) = false) (hc0 : (((s[0]).toNat : Nat) : Int) ≠ 45) (n : Nat) (hrn : ∀ w, Calls Tryz.prog 108 #[.string s] w fun e w' => e = .returned (.int .i64 (n : Nat)) ∧ w = w') (hb : 4 ≤ (n : Int)) (hb2 : (n : Int) ≤ 9) (hb3 : (n : Int) ≤ 4) (hnl : n ≤ s.size) (P S2 : ByteArray) (hP : s.extract 0 n = P) (hS2 : s.extract n s.size = S2) (hs2 : S2.size ≤ 4000000000) (Y : Int) (hsm : ∀ w, Calls Tryz.prog 110 #[.string P] w fun e w' => e = .returned (.int .i64 Y) ∧ Below w.heap.size w w') (l0 : 0 < S2.size) (l3 : 3 < S2.size) (hl : 6 ≤ (S2.size : Int)) (q0 : (((S2[0]).toNat : Nat) : Int) = 45) (q3 : (((S2[3]).toNat : Nat) : Int) = 45) (AQ : ByteArray) (hAQ : S2.extract 1 S2.size = AQ) (M : Int) (hM : ∀ w, Calls Tryz.prog 130 #[.string AQ, .int .i64 1, .int .i64 12] w fun e w' => e = .returned (.int .i64 M) ∧ Below w.heap.size w w') (bM : M < 0) (hr : MoAt w g m) :
    Calls Tryz.prog 90 #[.pointer (some ⟨g, 0, none⟩), .string s] w fun e w' => e = .returned (.tuple #[.string ⟨#[]⟩, .bool false]) ∧ MoAt w' g { m with y := Y, mo := M } ∧ Below g w w' := by
  have HM := Lib.hid hM
  clear hM
  have HRN := Lib.hid hrn
  clear hrn
  have HSM := Lib.hid hsm
  clear hsm
  have HR := Lib.hid hr
  clear hr
  have hc0b : ((((s[0]).toNat : Nat) : Int) == 45) = false := beq_false_of_ne hc0
  go_enter Tryz.func90, Tryz.ntmps90
  go_upto_region 7 with (go_at_call 108; (with_reducible refine (HRN.out _).mono ?_); rintro e' w' ⟨rfl, rfl⟩)
  have c0 := row_cell HR.out 0
  have fz := HR.out.froz
  simp [Mo8.cells] at c0
  go_upto_region 8 with (go_at_call 110; (with_reducible refine (HSM.out _).mono ?_); rintro e' w2 ⟨rfl, hbx⟩; (have R2 := HR.out.next hbx); (have c0' := row_cell R2 0); (have fz' := R2.froz); (simp [Mo8.cells] at c0'))
  have B2 : Below g w w2 := hbx.mono (Nat.le_of_lt HR.out.lt)
  have R3 : MoAt (w2.setCell ⟨g, 0, none⟩ (.int .i64 Y)) g { m with y := Y } := R2.set 0 _ rfl
  have B3 : Below g w (w2.setCell ⟨g, 0, none⟩ (.int .i64 Y)) := bel_set B2 0 _
  generalize World.setCell w2 _ _ = w3 at R3 B3 ⊢
  clear c0 fz c0' fz' R2 B2 hbx HR
  have R4 := R3
  have B4 := B3
  clear R3 B3
  have c1 := row_cell R4 1
  have fz := R4.froz
  simp [Mo8.cells] at c1
  have HR4 := Lib.hid R4
  have HB4 := Lib.hid B4
  clear R4 B4
  go_upto_region 14 with (go_at_call 130; (with_reducible refine (HM.out _).mono ?_); rintro e' w5 ⟨rfl, hbx⟩; (have R5 := HR4.out.next hbx); (have c1' := row_cell R5 1); (have fz' := R5.froz); (simp [Mo8.cells] at c1'))
  have B5 : Below g w w5 := HB4.out.trans (hbx.mono (Nat.le_of_lt HR4.out.lt))
  have R6 : MoAt (w5.setCell ⟨g, 1, none⟩ (.int .i64 M)) g { m with y := Y, mo := M } := R5.set 1 _ rfl
  have B6 : Below g w (w5.setCell ⟨g, 1, none⟩ (.int .i64 M)) := bel_set B5 1 _
  generalize World.setCell w5 _ _ = w6 at R6 B6 ⊢
  clear c1 fz c1' fz' R5 B5 hbx HR4 HB4
  have c0 := row_cell R6 0
  have c1 := row_cell R6 1
  have c2 := row_cell R6 2
  have fz := R6.froz
  simp [Mo8.cells] at c0 c1 c2
  have HR6 := Lib.hid R6
  have HB6 := Lib.hid B6
  clear R6 B6
  go_wp2_with fail
  go_ret2
  exact ⟨rfl, HR6.out, HB6.out⟩
set_option maxHeartbeats 2000000 in
theorem da_kpa (w : World) (g : Nat) (m : Mo8) (s : ByteArray) (hs : s.size ≤ 4000000000) (h0 : 0 < s.size) (he : (s.toList == []) = false) (hc0 : (((s[0]).toNat : Nat) : Int) ≠ 45) (n : Nat) (hrn : ∀ w, Calls Tryz.prog 108 #[.string s] w fun e w' => e = .returned (.int .i64 (n : Nat)) ∧ w = w') (hb : 4 ≤ (n : Int)) (hb2 : (n : Int) ≤ 9) (hb3 : (n : Int) ≤ 4) (hnl : n ≤ s.size) (P S2 : ByteArray) (hP : s.extract 0 n = P) (hS2 : s.extract n s.size = S2) (hs2 : S2.size ≤ 4000000000) (Y : Int) (hsm : ∀ w, Calls Tryz.prog 110 #[.string P] w fun e w' => e = .returned (.int .i64 Y) ∧ Below w.heap.size w w') (l0 : 0 < S2.size) (l3 : 3 < S2.size) (hl : 6 ≤ (S2.size : Int)) (q0 : (((S2[0]).toNat : Nat) : Int) = 45) (q3 : (((S2[3]).toNat : Nat) : Int) = 45) (AQ : ByteArray) (hAQ : S2.extract 1 S2.size = AQ) (M : Int) (hM : ∀ w, Calls Tryz.prog 130 #[.string AQ, .int .i64 1, .int .i64 12] w fun e w' => e = .returned (.int .i64 M) ∧ Below w.heap.size w w') (bM : 0 ≤ M) (DQ RQ : ByteArray) (hDQ : S2.extract 4 S2.size = DQ) (hRQ : S2.extract 6 S2.size = RQ) (dm D : Int) (hdy : ∀ w, Calls Tryz.prog 131 #[.int .i64 Y, .int .i64 M] w fun e w' => e = .returned (.int .i64 dm) ∧ Below w.heap.size w w') (hD : ∀ w, Calls Tryz.prog 130 #[.string DQ, .int .i64 1, .int .i64 dm] w fun e w' => e = .returned (.int .i64 D) ∧ Below w.heap.size w w') (hr : MoAt w g m) :
    Calls Tryz.prog 90 #[.pointer (some ⟨g, 0, none⟩), .string s] w fun e w' => e = .returned (.tuple #[.string RQ, .bool (decide (0 < D))]) ∧ MoAt w' g { m with y := Y, mo := M, d := D } ∧ Below g w w' := by
  have HM := Lib.hid hM
  clear hM
  have HDY := Lib.hid hdy
  have HD := Lib.hid hD
  clear hdy hD
  have HRN := Lib.hid hrn
  clear hrn
  have HSM := Lib.hid hsm
  clear hsm
  have HR := Lib.hid hr
  clear hr
  have hc0b : ((((s[0]).toNat : Nat) : Int) == 45) = false := beq_false_of_ne hc0
  go_enter Tryz.func90, Tryz.ntmps90
  go_upto_region 7 with (go_at_call 108; (with_reducible refine (HRN.out _).mono ?_); rintro e' w' ⟨rfl, rfl⟩)
  have c0 := row_cell HR.out 0
  have fz := HR.out.froz
  simp [Mo8.cells] at c0
  go_upto_region 8 with (go_at_call 110; (with_reducible refine (HSM.out _).mono ?_); rintro e' w2 ⟨rfl, hbx⟩; (have R2 := HR.out.next hbx); (have c0' := row_cell R2 0); (have fz' := R2.froz); (simp [Mo8.cells] at c0'))
  have B2 : Below g w w2 := hbx.mono (Nat.le_of_lt HR.out.lt)
  have R3 : MoAt (w2.setCell ⟨g, 0, none⟩ (.int .i64 Y)) g { m with y := Y } := R2.set 0 _ rfl
  have B3 : Below g w (w2.setCell ⟨g, 0, none⟩ (.int .i64 Y)) := bel_set B2 0 _
  generalize World.setCell w2 _ _ = w3 at R3 B3 ⊢
  clear c0 fz c0' fz' R2 B2 hbx HR
  have R4 := R3
  have B4 := B3
  clear R3 B3
  have c1 := row_cell R4 1
  have fz := R4.froz
  simp [Mo8.cells] at c1
  have HR4 := Lib.hid R4
  have HB4 := Lib.hid B4
  clear R4 B4
  go_upto_region 14 with (go_at_call 130; (with_reducible refine (HM.out _).mono ?_); rintro e' w5 ⟨rfl, hbx⟩; (have R5 := HR4.out.next hbx); (have c1' := row_cell R5 1); (have fz' := R5.froz); (simp [Mo8.cells] at c1'))
  have B5 : Below g w w5 := HB4.out.trans (hbx.mono (Nat.le_of_lt HR4.out.lt))
  have R6 : MoAt (w5.setCell ⟨g, 1, none⟩ (.int .i64 M)) g { m with y := Y, mo := M } := R5.set 1 _ rfl
  have B6 : Below g w (w5.setCell ⟨g, 1, none⟩ (.int .i64 M)) := bel_set B5 1 _
  generalize World.setCell w5 _ _ = w6 at R6 B6 ⊢
  clear c1 fz c1' fz' R5 B5 hbx HR4 HB4
  have c0 := row_cell R6 0
  have c1 := row_cell R6 1
  have c2 := row_cell R6 2
  have fz := R6.froz
  simp [Mo8.cells] at c0 c1 c2
  have HR6 := Lib.hid R6
  have HB6 := Lib.hid B6
  clear R6 B6
  go_upto_region 16 with fail
  clear c0 c1 c2 fz
  have rx := HR6.out
  have q1 := Lw.row rx
  have x0 := fun x => (row_cell (q1 x) 0)
  have x1 := fun x => (row_cell (q1 x) 1)
  simp [Mo8.cells] at x0 x1
  clear q1 rx
  refine wp_region_lw_tail 15 (by kernel_rfl) (by kernel_rfl) ?_
  simp only [List.take_succ_cons, List.take_zero, List.drop_succ_cons, List.drop_zero]
  repeat (go_big_quiet_step (first | exact rfl | (go_at_call 131; with_reducible exact lw_call (HDY.out _)) | (go_at_call 130; with_reducible exact lw_call (HD.out _))))
  refine wpQuiet_nil ?_
  rintro ⟨w7, hb7⟩
  dsimp only
  clear x0 x1
  have R7 := HR6.out.next hb7
  have B7 : Below g w w7 := HB6.out.trans (hb7.mono (Nat.le_of_lt HR6.out.lt))
  have c2 := row_cell R7 2
  have fz := R7.froz
  simp [Mo8.cells] at c2
  have R8 : MoAt (w7.setCell ⟨g, 2, none⟩ (.int .i64 D)) g { m with y := Y, mo := M, d := D } := R7.set 2 _ rfl
  have B8 : Below g w (w7.setCell ⟨g, 2, none⟩ (.int .i64 D)) := bel_set B7 2 _
  go_upto_region 17 with fail
  generalize World.setCell w7 _ _ = w8 at R8 B8 ⊢
  clear c2 fz R7 B7 hb7
  have q2 := Lw.row R8
  have x2 := fun x => (row_cell (q2 x) 2)
  simp [Mo8.cells] at x2
  clear q2
  refine wp_region_lw (by kernel_rfl) (by kernel_rfl) ?_
  repeat (go_big_quiet_step (first | exact rfl))
  refine wpQuiet_nil ?_
  rintro ⟨w9, hb9⟩
  dsimp only
  have R9 := R8.next hb9
  have B9 : Below g w w9 := B8.trans (hb9.mono (Nat.le_of_lt R8.lt))
  clear x2 hb9 R8 B8
  have HR9 := Lib.hid R9
  have HB9 := Lib.hid B9
  clear R9 B9
  go_wp2_with fail
  go_ret2
  exact ⟨rfl, HR9.out, HB9.out⟩
set_option maxHeartbeats 2000000 in
theorem da_lpb (w : World) (g : Nat) (m : Mo8) (s : ByteArray) (hs : s.size ≤ 4000000000) (h0 : 0 < s.size) (he : (s.toList == []) = false) (hc0 : (((s[0]).toNat : Nat) : Int) ≠ 45) (n : Nat) (hrn : ∀ w, Calls Tryz.prog 108 #[.string s] w fun e w' => e = .returned (.int .i64 (n : Nat)) ∧ w = w') (hb : 4 ≤ (n : Int)) (hb2 : (n : Int) ≤ 9) (k0 : 0 < s.size) (hb3 : 4 < (n : Int)) (hz : (((s[0]).toNat : Nat) : Int) ≠ 48) (hnl : n ≤ s.size) (P S2 : ByteArray) (hP : s.extract 0 n = P) (hS2 : s.extract n s.size = S2) (hs2 : S2.size ≤ 4000000000) (Y : Int) (hsm : ∀ w, Calls Tryz.prog 110 #[.string P] w fun e w' => e = .returned (.int .i64 Y) ∧ Below w.heap.size w w') (hl : (S2.size : Int) < 6) (hr : MoAt w g m) :
    Calls Tryz.prog 90 #[.pointer (some ⟨g, 0, none⟩), .string s] w fun e w' => e = .returned (.tuple #[.string ⟨#[]⟩, .bool false]) ∧ MoAt w' g { m with y := Y } ∧ Below g w w' := by
  have HRN := Lib.hid hrn
  clear hrn
  have HSM := Lib.hid hsm
  clear hsm
  have HR := Lib.hid hr
  clear hr
  have hc0b : ((((s[0]).toNat : Nat) : Int) == 45) = false := beq_false_of_ne hc0
  have hzb : ((((s[0]).toNat : Nat) : Int) == 48) = false := beq_false_of_ne hz
  go_enter Tryz.func90, Tryz.ntmps90
  go_upto_region 7 with (go_at_call 108; (with_reducible refine (HRN.out _).mono ?_); rintro e' w' ⟨rfl, rfl⟩)
  have c0 := row_cell HR.out 0
  have fz := HR.out.froz
  simp [Mo8.cells] at c0
  go_upto_region 8 with (go_at_call 110; (with_reducible refine (HSM.out _).mono ?_); rintro e' w2 ⟨rfl, hbx⟩; (have R2 := HR.out.next hbx); (have c0' := row_cell R2 0); (have fz' := R2.froz); (simp [Mo8.cells] at c0'))
  have B2 : Below g w w2 := hbx.mono (Nat.le_of_lt HR.out.lt)
  have R3 : MoAt (w2.setCell ⟨g, 0, none⟩ (.int .i64 Y)) g { m with y := Y } := R2.set 0 _ rfl
  have B3 : Below g w (w2.setCell ⟨g, 0, none⟩ (.int .i64 Y)) := bel_set B2 0 _
  generalize World.setCell w2 _ _ = w3 at R3 B3 ⊢
  clear c0 fz c0' fz' R2 B2 hbx HR
  have R4 := R3
  have B4 := B3
  clear R3 B3
  have HR4 := Lib.hid R4
  have HB4 := Lib.hid B4
  clear R4 B4
  go_wp2_with fail
  go_ret2
  exact ⟨rfl, HR4.out, HB4.out⟩
set_option maxHeartbeats 2000000 in
theorem da_cpb (w : World) (g : Nat) (m : Mo8) (s : ByteArray) (hs : s.size ≤ 4000000000) (h0 : 0 < s.size) (he : (s.toList == []) = false) (hc0 : (((s[0]).toNat : Nat) : Int) ≠ 45) (n : Nat) (hrn : ∀ w, Calls Tryz.prog 108 #[.string s] w fun e w' => e = .returned (.int .i64 (n : Nat)) ∧ w = w') (hb : 4 ≤ (n : Int)) (hb2 : (n : Int) ≤ 9) (k0 : 0 < s.size) (hb3 : 4 < (n : Int)) (hz : (((s[0]).toNat : Nat) : Int) ≠ 48) (hnl : n ≤ s.size) (P S2 : ByteArray) (hP : s.extract 0 n = P) (hS2 : s.extract n s.size = S2) (hs2 : S2.size ≤ 4000000000) (Y : Int) (hsm : ∀ w, Calls Tryz.prog 110 #[.string P] w fun e w' => e = .returned (.int .i64 Y) ∧ Below w.heap.size w w') (l0 : 0 < S2.size) (l3 : 3 < S2.size) (hl : 6 ≤ (S2.size : Int)) (q0 : (((S2[0]).toNat : Nat) : Int) ≠ 45) (hr : MoAt w g m) :
    Calls Tryz.prog 90 #[.pointer (some ⟨g, 0, none⟩), .string s] w fun e w' => e = .returned (.tuple #[.string ⟨#[]⟩, .bool false]) ∧ MoAt w' g { m with y := Y } ∧ Below g w w' := by
  have q0b : ((((S2[0]).toNat : Nat) : Int) != 45) = true := bne_iff_ne.2 q0
  have HRN := Lib.hid hrn
  clear hrn
  have HSM := Lib.hid hsm
  clear hsm
  have HR := Lib.hid hr
  clear hr
  have hc0b : ((((s[0]).toNat : Nat) : Int) == 45) = false := beq_false_of_ne hc0
  have hzb : ((((s[0]).toNat : Nat) : Int) == 48) = false := beq_false_of_ne hz
  go_enter Tryz.func90, Tryz.ntmps90
  go_upto_region 7 with (go_at_call 108; (with_reducible refine (HRN.out _).mono ?_); rintro e' w' ⟨rfl, rfl⟩)
  have c0 := row_cell HR.out 0
  have fz := HR.out.froz
  simp [Mo8.cells] at c0
  go_upto_region 8 with (go_at_call 110; (with_reducible refine (HSM.out _).mono ?_); rintro e' w2 ⟨rfl, hbx⟩; (have R2 := HR.out.next hbx); (have c0' := row_cell R2 0); (have fz' := R2.froz); (simp [Mo8.cells] at c0'))
  have B2 : Below g w w2 := hbx.mono (Nat.le_of_lt HR.out.lt)
  have R3 : MoAt (w2.setCell ⟨g, 0, none⟩ (.int .i64 Y)) g { m with y := Y } := R2.set 0 _ rfl
  have B3 : Below g w (w2.setCell ⟨g, 0, none⟩ (.int .i64 Y)) := bel_set B2 0 _
  generalize World.setCell w2 _ _ = w3 at R3 B3 ⊢
  clear c0 fz c0' fz' R2 B2 hbx HR
  have R4 := R3
  have B4 := B3
  clear R3 B3
  have HR4 := Lib.hid R4
  have HB4 := Lib.hid B4
  clear R4 B4
  go_wp2_with fail
  go_ret2
  exact ⟨rfl, HR4.out, HB4.out⟩
set_option maxHeartbeats 2000000 in
theorem da_dpb (w : World) (g : Nat) (m : Mo8) (s : ByteArray) (hs : s.size ≤ 4000000000) (h0 : 0 < s.size) (he : (s.toList == []) = false) (hc0 : (((s[0]).toNat : Nat) : Int) ≠ 45) (n : Nat) (hrn : ∀ w, Calls Tryz.prog 108 #[.string s] w fun e w' => e = .returned (.int .i64 (n : Nat)) ∧ w = w') (hb : 4 ≤ (n : Int)) (hb2 : (n : Int) ≤ 9) (k0 : 0 < s.size) (hb3 : 4 < (n : Int)) (hz : (((s[0]).toNat : Nat) : Int) ≠ 48) (hnl : n ≤ s.size) (P S2 : ByteArray) (hP : s.extract 0 n = P) (hS2 : s.extract n s.size = S2) (hs2 : S2.size ≤ 4000000000) (Y : Int) (hsm : ∀ w, Calls Tryz.prog 110 #[.string P] w fun e w' => e = .returned (.int .i64 Y) ∧ Below w.heap.size w w') (l0 : 0 < S2.size) (l3 : 3 < S2.size) (hl : 6 ≤ (S2.size : Int)) (q0 : (((S2[0]).toNat : Nat) : Int) = 45) (q3 : (((S2[3]).toNat : Nat) : Int) ≠ 45) (hr : MoAt w g m) :
    Calls Tryz.prog 90 #[.pointer (some ⟨g, 0, none⟩), .string s] w fun e w' => e = .returned (.tuple #[.string ⟨#[]⟩, .bool false]) ∧ MoAt w' g { m with y := Y } ∧ Below g w w' := by
  have q3b : ((((S2[3]).toNat : Nat) : Int) != 45) = true := bne_iff_ne.2 q3
  have HRN := Lib.hid hrn
  clear hrn
  have HSM := Lib.hid hsm
  clear hsm
  have HR := Lib.hid hr
  clear hr
  have hc0b : ((((s[0]).toNat : Nat) : Int) == 45) = false := beq_false_of_ne hc0
  have hzb : ((((s[0]).toNat : Nat) : Int) == 48) = false := beq_false_of_ne hz
  go_enter Tryz.func90, Tryz.ntmps90
  go_upto_region 7 with (go_at_call 108; (with_reducible refine (HRN.out _).mono ?_); rintro e' w' ⟨rfl, rfl⟩)
  have c0 := row_cell HR.out 0
  have fz := HR.out.froz
  simp [Mo8.cells] at c0
  go_upto_region 8 with (go_at_call 110; (with_reducible refine (HSM.out _).mono ?_); rintro e' w2 ⟨rfl, hbx⟩; (have R2 := HR.out.next hbx); (have c0' := row_cell R2 0); (have fz' := R2.froz); (simp [Mo8.cells] at c0'))
  have B2 : Below g w w2 := hbx.mono (Nat.le_of_lt HR.out.lt)
  have R3 : MoAt (w2.setCell ⟨g, 0, none⟩ (.int .i64 Y)) g { m with y := Y } := R2.set 0 _ rfl
  have B3 : Below g w (w2.setCell ⟨g, 0, none⟩ (.int .i64 Y)) := bel_set B2 0 _
  generalize World.setCell w2 _ _ = w3 at R3 B3 ⊢
  clear c0 fz c0' fz' R2 B2 hbx HR
  have R4 := R3
  have B4 := B3
  clear R3 B3
  have HR4 := Lib.hid R4
  have HB4 := Lib.hid B4
  clear R4 B4
  go_wp2_with fail
  go_ret2
  exact ⟨rfl, HR4.out, HB4.out⟩
set_option maxHeartbeats 2000000 in
theorem da_mpb (w : World) (g : Nat) (m : Mo8) (s : ByteArray) (hs : s.size ≤ 4000000000) (h0 : 0 < s.size) (he : (s.toList == []) = false) (hc0 : (((s[0]).toNat : Nat) : Int) ≠ 45) (n : Nat) (hrn : ∀ w, Calls Tryz.prog 108 #[.string s] w fun e w' => e = .returned (.int .i64 (n : Nat)) ∧ w = w') (hb : 4 ≤ (n : Int)) (hb2 : (n : Int) ≤ 9) (k0 : 0 < s.size) (hb3 : 4 < (n : Int)) (hz : (((s[0]).toNat : Nat) : Int) ≠ 48) (hnl : n ≤ s.size) (P S2 : ByteArray) (hP : s.extract 0 n = P) (hS2 : s.extract n s.size = S2) (hs2 : S2.size ≤ 4000000000) (Y : Int) (hsm : ∀ w, Calls Tryz.prog 110 #[.string P] w fun e w' => e = .returned (.int .i64 Y) ∧ Below w.heap.size w w') (l0 : 0 < S2.size) (l3 : 3 < S2.size) (hl : 6 ≤ (S2.size : Int)) (q0 : (((S2[0]).toNat : Nat) : Int) = 45) (q3 : (((S2[3]).toNat : Nat) : Int) = 45) (AQ : ByteArray) (hAQ : S2.extract 1 S2.size = AQ) (M : Int) (hM : ∀ w, Calls Tryz.prog 130 #[.string AQ, .int .i64 1, .int .i64 12] w fun e w' => e = .returned (.int .i64 M) ∧ Below w.heap.size w w') (bM : M < 0) (hr : MoAt w g m) :
    Calls Tryz.prog 90 #[.pointer (some ⟨g, 0, none⟩), .string s] w fun e w' => e = .returned (.tuple #[.string ⟨#[]⟩, .bool false]) ∧ MoAt w' g { m with y := Y, mo := M } ∧ Below g w w' := by
  have HM := Lib.hid hM
  clear hM
  have HRN := Lib.hid hrn
  clear hrn
  have HSM := Lib.hid hsm
  clear hsm
  have HR := Lib.hid hr
  clear hr
  have hc0b : ((((s[0]).toNat : Nat) : Int) == 45) = false := beq_false_of_ne hc0
  have hzb : ((((s[0]).toNat : Nat) : Int) == 48) = false := beq_false_of_ne hz
  go_enter Tryz.func90, Tryz.ntmps90
  go_upto_region 7 with (go_at_call 108; (with_reducible refine (HRN.out _).mono ?_); rintro e' w' ⟨rfl, rfl⟩)
  have c0 := row_cell HR.out 0
  have fz := HR.out.froz
  simp [Mo8.cells] at c0
  go_upto_region 8 with (go_at_call 110; (with_reducible refine (HSM.out _).mono ?_); rintro e' w2 ⟨rfl, hbx⟩; (have R2 := HR.out.next hbx); (have c0' := row_cell R2 0); (have fz' := R2.froz); (simp [Mo8.cells] at c0'))
  have B2 : Below g w w2 := hbx.mono (Nat.le_of_lt HR.out.lt)
  have R3 : MoAt (w2.setCell ⟨g, 0, none⟩ (.int .i64 Y)) g { m with y := Y } := R2.set 0 _ rfl
  have B3 : Below g w (w2.setCell ⟨g, 0, none⟩ (.int .i64 Y)) := bel_set B2 0 _
  generalize World.setCell w2 _ _ = w3 at R3 B3 ⊢
  clear c0 fz c0' fz' R2 B2 hbx HR
  have R4 := R3
  have B4 := B3
  clear R3 B3
  have c1 := row_cell R4 1
  have fz := R4.froz
  simp [Mo8.cells] at c1
  have HR4 := Lib.hid R4
  have HB4 := Lib.hid B4
  clear R4 B4
  go_upto_region 14 with (go_at_call 130; (with_reducible refine (HM.out _).mono ?_); rintro e' w5 ⟨rfl, hbx⟩; (have R5 := HR4.out.next hbx); (have c1' := row_cell R5 1); (have fz' := R5.froz); (simp [Mo8.cells] at c1'))
  have B5 : Below g w w5 := HB4.out.trans (hbx.mono (Nat.le_of_lt HR4.out.lt))
  have R6 : MoAt (w5.setCell ⟨g, 1, none⟩ (.int .i64 M)) g { m with y := Y, mo := M } := R5.set 1 _ rfl
  have B6 : Below g w (w5.setCell ⟨g, 1, none⟩ (.int .i64 M)) := bel_set B5 1 _
  generalize World.setCell w5 _ _ = w6 at R6 B6 ⊢
  clear c1 fz c1' fz' R5 B5 hbx HR4 HB4
  have c0 := row_cell R6 0
  have c1 := row_cell R6 1
  have c2 := row_cell R6 2
  have fz := R6.froz
  simp [Mo8.cells] at c0 c1 c2
  have HR6 := Lib.hid R6
  have HB6 := Lib.hid B6
  clear R6 B6
  go_wp2_with fail
  go_ret2
  exact ⟨rfl, HR6.out, HB6.out⟩
set_option maxHeartbeats 2000000 in
theorem da_kpb (w : World) (g : Nat) (m : Mo8) (s : ByteArray) (hs : s.size ≤ 4000000000) (h0 : 0 < s.size) (he : (s.toList == []) = false) (hc0 : (((s[0]).toNat : Nat) : Int) ≠ 45) (n : Nat) (hrn : ∀ w, Calls Tryz.prog 108 #[.string s] w fun e w' => e = .returned (.int .i64 (n : Nat)) ∧ w = w') (hb : 4 ≤ (n : Int)) (hb2 : (n : Int) ≤ 9) (k0 : 0 < s.size) (hb3 : 4 < (n : Int)) (hz : (((s[0]).toNat : Nat) : Int) ≠ 48) (hnl : n ≤ s.size) (P S2 : ByteArray) (hP : s.extract 0 n = P) (hS2 : s.extract n s.size = S2) (hs2 : S2.size ≤ 4000000000) (Y : Int) (hsm : ∀ w, Calls Tryz.prog 110 #[.string P] w fun e w' => e = .returned (.int .i64 Y) ∧ Below w.heap.size w w') (l0 : 0 < S2.size) (l3 : 3 < S2.size) (hl : 6 ≤ (S2.size : Int)) (q0 : (((S2[0]).toNat : Nat) : Int) = 45) (q3 : (((S2[3]).toNat : Nat) : Int) = 45) (AQ : ByteArray) (hAQ : S2.extract 1 S2.size = AQ) (M : Int) (hM : ∀ w, Calls Tryz.prog 130 #[.string AQ, .int .i64 1, .int .i64 12] w fun e w' => e = .returned (.int .i64 M) ∧ Below w.heap.size w w') (bM : 0 ≤ M) (DQ RQ : ByteArray) (hDQ : S2.extract 4 S2.size = DQ) (hRQ : S2.extract 6 S2.size = RQ) (dm D : Int) (hdy : ∀ w, Calls Tryz.prog 131 #[.int .i64 Y, .int .i64 M] w fun e w' => e = .returned (.int .i64 dm) ∧ Below w.heap.size w w') (hD : ∀ w, Calls Tryz.prog 130 #[.string DQ, .int .i64 1, .int .i64 dm] w fun e w' => e = .returned (.int .i64 D) ∧ Below w.heap.size w w') (hr : MoAt w g m) :
    Calls Tryz.prog 90 #[.pointer (some ⟨g, 0, none⟩), .string s] w fun e w' => e = .returned (.tuple #[.string RQ, .bool (decide (0 < D))]) ∧ MoAt w' g { m with y := Y, mo := M, d := D } ∧ Below g w w' := by
  have HM := Lib.hid hM
  clear hM
  have HDY := Lib.hid hdy
  have HD := Lib.hid hD
  clear hdy hD
  have HRN := Lib.hid hrn
  clear hrn
  have HSM := Lib.hid hsm
  clear hsm
  have HR := Lib.hid hr
  clear hr
  have hc0b : ((((s[0]).toNat : Nat) : Int) == 45) = false := beq_false_of_ne hc0
  have hzb : ((((s[0]).toNat : Nat) : Int) == 48) = false := beq_false_of_ne hz
  go_enter Tryz.func90, Tryz.ntmps90
  go_upto_region 7 with (go_at_call 108; (with_reducible refine (HRN.out _).mono ?_); rintro e' w' ⟨rfl, rfl⟩)
  have c0 := row_cell HR.out 0
  have fz := HR.out.froz
  simp [Mo8.cells] at c0
  go_upto_region 8 with (go_at_call 110; (with_reducible refine (HSM.out _).mono ?_); rintro e' w2 ⟨rfl, hbx⟩; (have R2 := HR.out.next hbx); (have c0' := row_cell R2 0); (have fz' := R2.froz); (simp [Mo8.cells] at c0'))
  have B2 : Below g w w2 := hbx.mono (Nat.le_of_lt HR.out.lt)
  have R3 : MoAt (w2.setCell ⟨g, 0, none⟩ (.int .i64 Y)) g { m with y := Y } := R2.set 0 _ rfl
  have B3 : Below g w (w2.setCell ⟨g, 0, none⟩ (.int .i64 Y)) := bel_set B2 0 _
  generalize World.setCell w2 _ _ = w3 at R3 B3 ⊢
  clear c0 fz c0' fz' R2 B2 hbx HR
  have R4 := R3
  have B4 := B3
  clear R3 B3
  have c1 := row_cell R4 1
  have fz := R4.froz
  simp [Mo8.cells] at c1
  have HR4 := Lib.hid R4
  have HB4 := Lib.hid B4
  clear R4 B4
  go_upto_region 14 with (go_at_call 130; (with_reducible refine (HM.out _).mono ?_); rintro e' w5 ⟨rfl, hbx⟩; (have R5 := HR4.out.next hbx); (have c1' := row_cell R5 1); (have fz' := R5.froz); (simp [Mo8.cells] at c1'))
  have B5 : Below g w w5 := HB4.out.trans (hbx.mono (Nat.le_of_lt HR4.out.lt))
  have R6 : MoAt (w5.setCell ⟨g, 1, none⟩ (.int .i64 M)) g { m with y := Y, mo := M } := R5.set 1 _ rfl
  have B6 : Below g w (w5.setCell ⟨g, 1, none⟩ (.int .i64 M)) := bel_set B5 1 _
  generalize World.setCell w5 _ _ = w6 at R6 B6 ⊢
  clear c1 fz c1' fz' R5 B5 hbx HR4 HB4
  have c0 := row_cell R6 0
  have c1 := row_cell R6 1
  have c2 := row_cell R6 2
  have fz := R6.froz
  simp [Mo8.cells] at c0 c1 c2
  have HR6 := Lib.hid R6
  have HB6 := Lib.hid B6
  clear R6 B6
  go_upto_region 16 with fail
  clear c0 c1 c2 fz
  have rx := HR6.out
  have q1 := Lw.row rx
  have x0 := fun x => (row_cell (q1 x) 0)
  have x1 := fun x => (row_cell (q1 x) 1)
  simp [Mo8.cells] at x0 x1
  clear q1 rx
  refine wp_region_lw_tail 15 (by kernel_rfl) (by kernel_rfl) ?_
  simp only [List.take_succ_cons, List.take_zero, List.drop_succ_cons, List.drop_zero]
  repeat (go_big_quiet_step (first | exact rfl | (go_at_call 131; with_reducible exact lw_call (HDY.out _)) | (go_at_call 130; with_reducible exact lw_call (HD.out _))))
  refine wpQuiet_nil ?_
  rintro ⟨w7, hb7⟩
  dsimp only
  clear x0 x1
  have R7 := HR6.out.next hb7
  have B7 : Below g w w7 := HB6.out.trans (hb7.mono (Nat.le_of_lt HR6.out.lt))
  have c2 := row_cell R7 2
  have fz := R7.froz
  simp [Mo8.cells] at c2
  have R8 : MoAt (w7.setCell ⟨g, 2, none⟩ (.int .i64 D)) g { m with y := Y, mo := M, d := D } := R7.set 2 _ rfl
  have B8 : Below g w (w7.setCell ⟨g, 2, none⟩ (.int .i64 D)) := bel_set B7 2 _
  go_upto_region 17 with fail
  generalize World.setCell w7 _ _ = w8 at R8 B8 ⊢
  clear c2 fz R7 B7 hb7
  have q2 := Lw.row R8
  have x2 := fun x => (row_cell (q2 x) 2)
  simp [Mo8.cells] at x2
  clear q2
  refine wp_region_lw (by kernel_rfl) (by kernel_rfl) ?_
  repeat (go_big_quiet_step (first | exact rfl))
  refine wpQuiet_nil ?_
  rintro ⟨w9, hb9⟩
  dsimp only
  have R9 := R8.next hb9
  have B9 : Below g w w9 := B8.trans (hb9.mono (Nat.le_of_lt R8.lt))
  clear x2 hb9 R8 B8
  have HR9 := Lib.hid R9
  have HB9 := Lib.hid B9
  clear R9 B9
  go_wp2_with fail
  go_ret2
  exact ⟨rfl, HR9.out, HB9.out⟩
end Go.Proofs.YtlhcejbimlilaaaGreatDoor
