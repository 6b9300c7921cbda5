/- ValueSettles: the walk (written by gen_vset.py). -/
import Derived.Test.YtlhcejbimlilaaaGreatDoorVcF
set_option linter.unusedVariables false
set_option linter.unusedSimpArgs false
namespace Go.Proofs.YtlhcejbimlilaaaGreatDoor
open Go.RowKit Go.Tk
set_option maxRecDepth 100000 in
set_option maxHeartbeats 4000000 in
theorem st_err (w : World) (T s t A B : ByteArray) (e f : Int) (he : e ≠ 0) (hpw : Pow w)
    (k1 : ∀ w, Pow w → Calls Tryz.prog 15 #[.string T, .string s] w fun e' w' => e' = .returned (.tuple #[.string A, .int .i64 e]) ∧ Below w.heap.size w w') (k2 : ∀ w, Pow w → Calls Tryz.prog 15 #[.string T, .string t] w fun e' w' => e' = .returned (.tuple #[.string B, .int .i64 f]) ∧ Below w.heap.size w w')
    (hA : A = ⟨#[]⟩) :
    Calls Tryz.prog 9 #[.string T, .string s, .string t] w fun e w' => e = .returned (.bool true) ∧ Below w.heap.size w w' := by
  have hz : (e == 0) = false := beq_false_of_ne he
  clear he
  subst hA
  have hwk : Calls Tryz.prog 21 #[] w fun e w' => e = .returned (.bool true) ∧ Below w.heap.size w w' := works_calls w hpw
  have HWK := Lib.hid hwk
  have HP := Lib.hid hpw
  have N := Lib.hid num_calls
  have K1 := Lib.hid k1
  have K2 := Lib.hid k2
  clear hwk hpw k1 k2
  go_enter Tryz.func9, Tryz.ntmps9
  go_upto_region 3 with (go_at_call 21; (with_reducible refine (HWK.out).mono ?_); rintro e' w1 ⟨rfl, hb⟩)
  have HP1 := Lib.hid (HP.out.below hb)
  have HB1 := Lib.hid hb
  clear hb
  go_upto_region 4 with (go_at_call 15; (with_reducible refine (K1.out _ HP1.out).mono ?_); rintro e' w2 ⟨rfl, hb⟩)
  have HP2 := Lib.hid (HP1.out.below hb)
  have HB2 := Lib.hid (HB1.out.trans (hb.mono HB1.out.size))
  clear hb HB1
  go_upto_region 5 with (go_at_call 15; (with_reducible refine (K2.out _ HP2.out).mono ?_); rintro e' w3 ⟨rfl, hb⟩)
  have HP3 := Lib.hid (HP2.out.below hb)
  have HB3 := Lib.hid (HB2.out.trans (hb.mono HB2.out.size))
  clear hb HB2
  go_upto_region 7 with fail
  obtain ⟨rx, ry, hb⟩ := box2 w3 (.cells #[.int .i64 3, .string s, .string T, .string ⟨#[]⟩] 33) (.cells #[.int .i64 3, .string t, .string T, .string ⟨#[]⟩] 33)
  generalize World.alloc (World.alloc w3 _) _ = w4 at rx ry hb ⊢
  have HP4 := Lib.hid (HP3.out.below hb)
  have HB4 := Lib.hid (HB3.out.trans (hb.mono HB3.out.size))
  have HRX := Lib.hid rx
  have HRY := Lib.hid ry
  clear hb HB3 HP3 rx ry
  go_wp2_with (go_at_call 12; (with_reducible refine (N.out _ _).mono ?_); rintro e' w' ⟨rfl, rfl⟩)
  go_ret
  exact ⟨rfl, HB4.out⟩
set_option maxRecDepth 100000 in
set_option maxHeartbeats 4000000 in
theorem st_oth (w : World) (T s t A B : ByteArray) (e f : Int) (hf : (f == 0) = false) (hpw : Pow w)
    (k1 : ∀ w, Pow w → Calls Tryz.prog 15 #[.string T, .string s] w fun e' w' => e' = .returned (.tuple #[.string A, .int .i64 e]) ∧ Below w.heap.size w w') (k2 : ∀ w, Pow w → Calls Tryz.prog 15 #[.string T, .string t] w fun e' w' => e' = .returned (.tuple #[.string B, .int .i64 f]) ∧ Below w.heap.size w w')
    (k3 : ∀ w, Pow w → Calls Tryz.prog 15 #[.string T, .string A] w fun e' w' => e' = .returned (.tuple #[.string A, .int .i64 0]) ∧ Below w.heap.size w w') (kc : ∀ w, Calls Tryz.prog 13 #[.string T, .string A] w fun e w' => e = .returned (.int .i64 0) ∧ Below w.heap.size w w') (ke : ∀ w, Calls Tryz.prog 19 #[.agg #[.int .i64 3, .string s, .string T, .string ⟨#[]⟩], .agg #[.int .i64 3, .string A, .string T, .string ⟨#[]⟩]] w fun e w' => e = .returned (.bool true) ∧ Below w.heap.size w w') (he : e = 0) :
    Calls Tryz.prog 9 #[.string T, .string s, .string t] w fun e w' => e = .returned (.bool true) ∧ Below w.heap.size w w' := by
  subst he
  have K3 := Lib.hid k3
  have KC := Lib.hid kc
  have KE := Lib.hid ke
  clear k3 kc ke
  have hwk : Calls Tryz.prog 21 #[] w fun e w' => e = .returned (.bool true) ∧ Below w.heap.size w w' := works_calls w hpw
  have HWK := Lib.hid hwk
  have HP := Lib.hid hpw
  have N := Lib.hid num_calls
  have K1 := Lib.hid k1
  have K2 := Lib.hid k2
  clear hwk hpw k1 k2
  go_enter Tryz.func9, Tryz.ntmps9
  go_upto_region 3 with (go_at_call 21; (with_reducible refine (HWK.out).mono ?_); rintro e' w1 ⟨rfl, hb⟩)
  have HP1 := Lib.hid (HP.out.below hb)
  have HB1 := Lib.hid hb
  clear hb
  go_upto_region 4 with (go_at_call 15; (with_reducible refine (K1.out _ HP1.out).mono ?_); rintro e' w2 ⟨rfl, hb⟩)
  have HP2 := Lib.hid (HP1.out.below hb)
  have HB2 := Lib.hid (HB1.out.trans (hb.mono HB1.out.size))
  clear hb HB1
  go_upto_region 5 with (go_at_call 15; (with_reducible refine (K2.out _ HP2.out).mono ?_); rintro e' w3 ⟨rfl, hb⟩)
  have HP3 := Lib.hid (HP2.out.below hb)
  have HB3 := Lib.hid (HB2.out.trans (hb.mono HB2.out.size))
  clear hb HB2
  go_upto_region 7 with fail
  obtain ⟨rx, ry, hb⟩ := box2 w3 (.cells #[.int .i64 3, .string s, .string T, .string ⟨#[]⟩] 33) (.cells #[.int .i64 3, .string t, .string T, .string ⟨#[]⟩] 33)
  generalize World.alloc (World.alloc w3 _) _ = w4 at rx ry hb ⊢
  have HP4 := Lib.hid (HP3.out.below hb)
  have HB4 := Lib.hid (HB3.out.trans (hb.mono HB3.out.size))
  have HRX := Lib.hid rx
  have HRY := Lib.hid ry
  clear hb HB3 HP3 rx ry
  go_upto_region 9 with (go_at_call 12; (with_reducible refine (N.out _ _).mono ?_); rintro e' w' ⟨rfl, rfl⟩)
  go_upto_region 10 with (go_at_call 15; (with_reducible refine (K3.out _ HP4.out).mono ?_); rintro e' w5 ⟨rfl, hb⟩)
  have HB5 := Lib.hid (HB4.out.trans (hb.mono HB4.out.size))
  replace HRX := Lib.hid ((hb.block _ (lt_of_block HRX.out)).trans HRX.out)
  replace HRY := Lib.hid ((hb.block _ (lt_of_block HRY.out)).trans HRY.out)
  clear hb HB4 HP4
  go_upto_region 11 with fail
  obtain ⟨rz, hb⟩ := box1 w5 (.cells #[.int .i64 3, .string A, .string T, .string ⟨#[]⟩] 33)
  generalize World.alloc w5 _ = w6 at rz hb ⊢
  have HB6 := Lib.hid (HB5.out.trans (hb.mono HB5.out.size))
  replace HRX := Lib.hid ((hb.block _ (lt_of_block HRX.out)).trans HRX.out)
  replace HRY := Lib.hid ((hb.block _ (lt_of_block HRY.out)).trans HRY.out)
  have HRZ := Lib.hid rz
  clear hb HB5 rz
  go_upto_region 13 with (first | (go_at_call 12; (with_reducible refine (N.out _ _).mono ?_); rintro e' w' ⟨rfl, rfl⟩) | (go_at_call 13; (with_reducible refine (KC.out _).mono ?_); rintro e' w7 ⟨rfl, hb7⟩; (have rx7 := (hb7.block _ (lt_of_block HRX.out)).trans HRX.out); (have rz7 := (hb7.block _ (lt_of_block HRZ.out)).trans HRZ.out); (have x0 := row_cell rx7 0); (have x1 := row_cell rx7 1); (have x2 := row_cell rx7 2); (have x3 := row_cell rx7 3); (have z0 := row_cell rz7 0); (have z1 := row_cell rz7 1); (have z2 := row_cell rz7 2); (have z3 := row_cell rz7 3); (simp at x0 x1 x2 x3 z0 z1 z2 z3); clear rx7 rz7) | (go_at_call 19; (with_reducible refine (KE.out _).mono ?_); rintro e' w8 ⟨rfl, hb8⟩))
  have HB8 := Lib.hid ((HB6.out.trans (hb7.mono HB6.out.size)).trans (hb8.mono (HB6.out.trans (hb7.mono HB6.out.size)).size))
  replace HRX := Lib.hid ((hb8.block _ (lt_of_block ((hb7.block _ (lt_of_block HRX.out)).trans HRX.out))).trans ((hb7.block _ (lt_of_block HRX.out)).trans HRX.out))
  replace HRY := Lib.hid ((hb8.block _ (lt_of_block ((hb7.block _ (lt_of_block HRY.out)).trans HRY.out))).trans ((hb7.block _ (lt_of_block HRY.out)).trans HRY.out))
  clear x0 x1 x2 x3 z0 z1 z2 z3 hb7 hb8 HB6 HRZ
  have hf2 : ¬ f = 0 := by simpa using hf
  go_wp2_with (go_at_call 12; (with_reducible refine (N.out _ _).mono ?_); rintro e' w' ⟨rfl, rfl⟩)
  go_ret
  exact ⟨rfl, HB8.out⟩
set_option maxRecDepth 100000 in
set_option maxHeartbeats 4000000 in
theorem st_zn (w : World) (T s t A B : ByteArray) (e f : Int)  (hpw : Pow w)
    (k1 : ∀ w, Pow w → Calls Tryz.prog 15 #[.string T, .string s] w fun e' w' => e' = .returned (.tuple #[.string A, .int .i64 e]) ∧ Below w.heap.size w w') (k2 : ∀ w, Pow w → Calls Tryz.prog 15 #[.string T, .string t] w fun e' w' => e' = .returned (.tuple #[.string B, .int .i64 f]) ∧ Below w.heap.size w w')
    (k3 : ∀ w, Pow w → Calls Tryz.prog 15 #[.string T, .string A] w fun e' w' => e' = .returned (.tuple #[.string A, .int .i64 0]) ∧ Below w.heap.size w w') (kc : ∀ w, Calls Tryz.prog 13 #[.string T, .string A] w fun e w' => e = .returned (.int .i64 0) ∧ Below w.heap.size w w') (ke : ∀ w, Calls Tryz.prog 19 #[.agg #[.int .i64 3, .string s, .string T, .string ⟨#[]⟩], .agg #[.int .i64 3, .string A, .string T, .string ⟨#[]⟩]] w fun e w' => e = .returned (.bool true) ∧ Below w.heap.size w w') (kz : ∀ w, Calls Tryz.prog 23 #[.string T] w fun e w' => e = .returned (.bool true) ∧ w = w') (he : e = 0) (hf : f = 0) :
    Calls Tryz.prog 9 #[.string T, .string s, .string t] w fun e w' => e = .returned (.bool true) ∧ Below w.heap.size w w' := by
  subst he
  subst hf
  have KZ := Lib.hid kz
  clear kz
  have K3 := Lib.hid k3
  have KC := Lib.hid kc
  have KE := Lib.hid ke
  clear k3 kc ke
  have hwk : Calls Tryz.prog 21 #[] w fun e w' => e = .returned (.bool true) ∧ Below w.heap.size w w' := works_calls w hpw
  have HWK := Lib.hid hwk
  have HP := Lib.hid hpw
  have N := Lib.hid num_calls
  have K1 := Lib.hid k1
  have K2 := Lib.hid k2
  clear hwk hpw k1 k2
  go_enter Tryz.func9, Tryz.ntmps9
  go_upto_region 3 with (go_at_call 21; (with_reducible refine (HWK.out).mono ?_); rintro e' w1 ⟨rfl, hb⟩)
  have HP1 := Lib.hid (HP.out.below hb)
  have HB1 := Lib.hid hb
  clear hb
  go_upto_region 4 with (go_at_call 15; (with_reducible refine (K1.out _ HP1.out).mono ?_); rintro e' w2 ⟨rfl, hb⟩)
  have HP2 := Lib.hid (HP1.out.below hb)
  have HB2 := Lib.hid (HB1.out.trans (hb.mono HB1.out.size))
  clear hb HB1
  go_upto_region 5 with (go_at_call 15; (with_reducible refine (K2.out _ HP2.out).mono ?_); rintro e' w3 ⟨rfl, hb⟩)
  have HP3 := Lib.hid (HP2.out.below hb)
  have HB3 := Lib.hid (HB2.out.trans (hb.mono HB2.out.size))
  clear hb HB2
  go_upto_region 7 with fail
  obtain ⟨rx, ry, hb⟩ := box2 w3 (.cells #[.int .i64 3, .string s, .string T, .string ⟨#[]⟩] 33) (.cells #[.int .i64 3, .string t, .string T, .string ⟨#[]⟩] 33)
  generalize World.alloc (World.alloc w3 _) _ = w4 at rx ry hb ⊢
  have HP4 := Lib.hid (HP3.out.below hb)
  have HB4 := Lib.hid (HB3.out.trans (hb.mono HB3.out.size))
  have HRX := Lib.hid rx
  have HRY := Lib.hid ry
  clear hb HB3 HP3 rx ry
  go_upto_region 9 with (go_at_call 12; (with_reducible refine (N.out _ _).mono ?_); rintro e' w' ⟨rfl, rfl⟩)
  go_upto_region 10 with (go_at_call 15; (with_reducible refine (K3.out _ HP4.out).mono ?_); rintro e' w5 ⟨rfl, hb⟩)
  have HB5 := Lib.hid (HB4.out.trans (hb.mono HB4.out.size))
  replace HRX := Lib.hid ((hb.block _ (lt_of_block HRX.out)).trans HRX.out)
  replace HRY := Lib.hid ((hb.block _ (lt_of_block HRY.out)).trans HRY.out)
  clear hb HB4 HP4
  go_upto_region 11 with fail
  obtain ⟨rz, hb⟩ := box1 w5 (.cells #[.int .i64 3, .string A, .string T, .string ⟨#[]⟩] 33)
  generalize World.alloc w5 _ = w6 at rz hb ⊢
  have HB6 := Lib.hid (HB5.out.trans (hb.mono HB5.out.size))
  replace HRX := Lib.hid ((hb.block _ (lt_of_block HRX.out)).trans HRX.out)
  replace HRY := Lib.hid ((hb.block _ (lt_of_block HRY.out)).trans HRY.out)
  have HRZ := Lib.hid rz
  clear hb HB5 rz
  go_upto_region 13 with (first | (go_at_call 12; (with_reducible refine (N.out _ _).mono ?_); rintro e' w' ⟨rfl, rfl⟩) | (go_at_call 13; (with_reducible refine (KC.out _).mono ?_); rintro e' w7 ⟨rfl, hb7⟩; (have rx7 := (hb7.block _ (lt_of_block HRX.out)).trans HRX.out); (have rz7 := (hb7.block _ (lt_of_block HRZ.out)).trans HRZ.out); (have x0 := row_cell rx7 0); (have x1 := row_cell rx7 1); (have x2 := row_cell rx7 2); (have x3 := row_cell rx7 3); (have z0 := row_cell rz7 0); (have z1 := row_cell rz7 1); (have z2 := row_cell rz7 2); (have z3 := row_cell rz7 3); (simp at x0 x1 x2 x3 z0 z1 z2 z3); clear rx7 rz7) | (go_at_call 19; (with_reducible refine (KE.out _).mono ?_); rintro e' w8 ⟨rfl, hb8⟩))
  have HB8 := Lib.hid ((HB6.out.trans (hb7.mono HB6.out.size)).trans (hb8.mono (HB6.out.trans (hb7.mono HB6.out.size)).size))
  replace HRX := Lib.hid ((hb8.block _ (lt_of_block ((hb7.block _ (lt_of_block HRX.out)).trans HRX.out))).trans ((hb7.block _ (lt_of_block HRX.out)).trans HRX.out))
  replace HRY := Lib.hid ((hb8.block _ (lt_of_block ((hb7.block _ (lt_of_block HRY.out)).trans HRY.out))).trans ((hb7.block _ (lt_of_block HRY.out)).trans HRY.out))
  clear x0 x1 x2 x3 z0 z1 z2 z3 hb7 hb8 HB6 HRZ
  go_wp2_with (first | (go_at_call 12; (with_reducible refine (N.out _ _).mono ?_); rintro e' w' ⟨rfl, rfl⟩) | (go_at_call 23; (with_reducible refine (KZ.out _).mono ?_); rintro e' w' ⟨rfl, rfl⟩))
  go_ret
  exact ⟨rfl, HB8.out⟩
set_option maxRecDepth 100000 in
set_option maxHeartbeats 4000000 in
theorem st_eq (w : World) (T s t A B : ByteArray) (e f : Int)  (hpw : Pow w)
    (k1 : ∀ w, Pow w → Calls Tryz.prog 15 #[.string T, .string s] w fun e' w' => e' = .returned (.tuple #[.string A, .int .i64 e]) ∧ Below w.heap.size w w') (k2 : ∀ w, Pow w → Calls Tryz.prog 15 #[.string T, .string t] w fun e' w' => e' = .returned (.tuple #[.string B, .int .i64 f]) ∧ Below w.heap.size w w')
    (k3 : ∀ w, Pow w → Calls Tryz.prog 15 #[.string T, .string A] w fun e' w' => e' = .returned (.tuple #[.string A, .int .i64 0]) ∧ Below w.heap.size w w') (kc : ∀ w, Calls Tryz.prog 13 #[.string T, .string A] w fun e w' => e = .returned (.int .i64 0) ∧ Below w.heap.size w w') (ke : ∀ w, Calls Tryz.prog 19 #[.agg #[.int .i64 3, .string s, .string T, .string ⟨#[]⟩], .agg #[.int .i64 3, .string A, .string T, .string ⟨#[]⟩]] w fun e w' => e = .returned (.bool true) ∧ Below w.heap.size w w') (kz : ∀ w, Calls Tryz.prog 23 #[.string T] w fun e w' => e = .returned (.bool false) ∧ w = w') (kf : ∀ w, Calls Tryz.prog 19 #[.agg #[.int .i64 3, .string s, .string T, .string ⟨#[]⟩], .agg #[.int .i64 3, .string t, .string T, .string ⟨#[]⟩]] w fun e w' => e = .returned (.bool true) ∧ Below w.heap.size w w') (he : e = 0) (hf : f = 0) (hB : A = B) :
    Calls Tryz.prog 9 #[.string T, .string s, .string t] w fun e w' => e = .returned (.bool true) ∧ Below w.heap.size w w' := by
  subst he
  subst hf
  subst hB
  have KZ := Lib.hid kz
  have KF := Lib.hid kf
  clear kz kf
  have K3 := Lib.hid k3
  have KC := Lib.hid kc
  have KE := Lib.hid ke
  clear k3 kc ke
  have hwk : Calls Tryz.prog 21 #[] w fun e w' => e = .returned (.bool true) ∧ Below w.heap.size w w' := works_calls w hpw
  have HWK := Lib.hid hwk
  have HP := Lib.hid hpw
  have N := Lib.hid num_calls
  have K1 := Lib.hid k1
  have K2 := Lib.hid k2
  clear hwk hpw k1 k2
  go_enter Tryz.func9, Tryz.ntmps9
  go_upto_region 3 with (go_at_call 21; (with_reducible refine (HWK.out).mono ?_); rintro e' w1 ⟨rfl, hb⟩)
  have HP1 := Lib.hid (HP.out.below hb)
  have HB1 := Lib.hid hb
  clear hb
  go_upto_region 4 with (go_at_call 15; (with_reducible refine (K1.out _ HP1.out).mono ?_); rintro e' w2 ⟨rfl, hb⟩)
  have HP2 := Lib.hid (HP1.out.below hb)
  have HB2 := Lib.hid (HB1.out.trans (hb.mono HB1.out.size))
  clear hb HB1
  go_upto_region 5 with (go_at_call 15; (with_reducible refine (K2.out _ HP2.out).mono ?_); rintro e' w3 ⟨rfl, hb⟩)
  have HP3 := Lib.hid (HP2.out.below hb)
  have HB3 := Lib.hid (HB2.out.trans (hb.mono HB2.out.size))
  clear hb HB2
  go_upto_region 7 with fail
  obtain ⟨rx, ry, hb⟩ := box2 w3 (.cells #[.int .i64 3, .string s, .string T, .string ⟨#[]⟩] 33) (.cells #[.int .i64 3, .string t, .string T, .string ⟨#[]⟩] 33)
  generalize World.alloc (World.alloc w3 _) _ = w4 at rx ry hb ⊢
  have HP4 := Lib.hid (HP3.out.below hb)
  have HB4 := Lib.hid (HB3.out.trans (hb.mono HB3.out.size))
  have HRX := Lib.hid rx
  have HRY := Lib.hid ry
  clear hb HB3 HP3 rx ry
  go_upto_region 9 with (go_at_call 12; (with_reducible refine (N.out _ _).mono ?_); rintro e' w' ⟨rfl, rfl⟩)
  go_upto_region 10 with (go_at_call 15; (with_reducible refine (K3.out _ HP4.out).mono ?_); rintro e' w5 ⟨rfl, hb⟩)
  have HB5 := Lib.hid (HB4.out.trans (hb.mono HB4.out.size))
  replace HRX := Lib.hid ((hb.block _ (lt_of_block HRX.out)).trans HRX.out)
  replace HRY := Lib.hid ((hb.block _ (lt_of_block HRY.out)).trans HRY.out)
  clear hb HB4 HP4
  go_upto_region 11 with fail
  obtain ⟨rz, hb⟩ := box1 w5 (.cells #[.int .i64 3, .string A, .string T, .string ⟨#[]⟩] 33)
  generalize World.alloc w5 _ = w6 at rz hb ⊢
  have HB6 := Lib.hid (HB5.out.trans (hb.mono HB5.out.size))
  replace HRX := Lib.hid ((hb.block _ (lt_of_block HRX.out)).trans HRX.out)
  replace HRY := Lib.hid ((hb.block _ (lt_of_block HRY.out)).trans HRY.out)
  have HRZ := Lib.hid rz
  clear hb HB5 rz
  go_upto_region 13 with (first | (go_at_call 12; (with_reducible refine (N.out _ _).mono ?_); rintro e' w' ⟨rfl, rfl⟩) | (go_at_call 13; (with_reducible refine (KC.out _).mono ?_); rintro e' w7 ⟨rfl, hb7⟩; (have rx7 := (hb7.block _ (lt_of_block HRX.out)).trans HRX.out); (have rz7 := (hb7.block _ (lt_of_block HRZ.out)).trans HRZ.out); (have x0 := row_cell rx7 0); (have x1 := row_cell rx7 1); (have x2 := row_cell rx7 2); (have x3 := row_cell rx7 3); (have z0 := row_cell rz7 0); (have z1 := row_cell rz7 1); (have z2 := row_cell rz7 2); (have z3 := row_cell rz7 3); (simp at x0 x1 x2 x3 z0 z1 z2 z3); clear rx7 rz7) | (go_at_call 19; (with_reducible refine (KE.out _).mono ?_); rintro e' w8 ⟨rfl, hb8⟩))
  have HB8 := Lib.hid ((HB6.out.trans (hb7.mono HB6.out.size)).trans (hb8.mono (HB6.out.trans (hb7.mono HB6.out.size)).size))
  replace HRX := Lib.hid ((hb8.block _ (lt_of_block ((hb7.block _ (lt_of_block HRX.out)).trans HRX.out))).trans ((hb7.block _ (lt_of_block HRX.out)).trans HRX.out))
  replace HRY := Lib.hid ((hb8.block _ (lt_of_block ((hb7.block _ (lt_of_block HRY.out)).trans HRY.out))).trans ((hb7.block _ (lt_of_block HRY.out)).trans HRY.out))
  clear x0 x1 x2 x3 z0 z1 z2 z3 hb7 hb8 HB6 HRZ
  have rx8 := HRX.out
  have ry8 := HRY.out
  have x0 := row_cell rx8 0
  have x1 := row_cell rx8 1
  have x2 := row_cell rx8 2
  have x3 := row_cell rx8 3
  have y0 := row_cell ry8 0
  have y1 := row_cell ry8 1
  have y2 := row_cell ry8 2
  have y3 := row_cell ry8 3
  simp at x0 x1 x2 x3 y0 y1 y2 y3
  clear rx8 ry8
  go_wp2_with (first | (go_at_call 12; (with_reducible refine (N.out _ _).mono ?_); rintro e' w' ⟨rfl, rfl⟩) | (go_at_call 23; (with_reducible refine (KZ.out _).mono ?_); rintro e' w' ⟨rfl, rfl⟩) | (go_at_call 19; (with_reducible refine (KF.out _).mono ?_); rintro e' w9 ⟨rfl, hb9⟩))
  have hend := HB8.out.trans (hb9.mono HB8.out.size)
  go_ret
  exact ⟨rfl, hend⟩
set_option maxRecDepth 100000 in
set_option maxHeartbeats 4000000 in
theorem st_ne (w : World) (T s t A B : ByteArray) (e f : Int) (hab : (A.toList == B.toList) = false)  (hpw : Pow w)
    (k1 : ∀ w, Pow w → Calls Tryz.prog 15 #[.string T, .string s] w fun e' w' => e' = .returned (.tuple #[.string A, .int .i64 e]) ∧ Below w.heap.size w w') (k2 : ∀ w, Pow w → Calls Tryz.prog 15 #[.string T, .string t] w fun e' w' => e' = .returned (.tuple #[.string B, .int .i64 f]) ∧ Below w.heap.size w w')
    (k3 : ∀ w, Pow w → Calls Tryz.prog 15 #[.string T, .string A] w fun e' w' => e' = .returned (.tuple #[.string A, .int .i64 0]) ∧ Below w.heap.size w w') (kc : ∀ w, Calls Tryz.prog 13 #[.string T, .string A] w fun e w' => e = .returned (.int .i64 0) ∧ Below w.heap.size w w') (ke : ∀ w, Calls Tryz.prog 19 #[.agg #[.int .i64 3, .string s, .string T, .string ⟨#[]⟩], .agg #[.int .i64 3, .string A, .string T, .string ⟨#[]⟩]] w fun e w' => e = .returned (.bool true) ∧ Below w.heap.size w w') (kz : ∀ w, Calls Tryz.prog 23 #[.string T] w fun e w' => e = .returned (.bool false) ∧ w = w') (kf : ∀ w, Calls Tryz.prog 19 #[.agg #[.int .i64 3, .string s, .string T, .string ⟨#[]⟩], .agg #[.int .i64 3, .string t, .string T, .string ⟨#[]⟩]] w fun e w' => e = .returned (.bool false) ∧ Below w.heap.size w w') (he : e = 0) (hf : f = 0) :
    Calls Tryz.prog 9 #[.string T, .string s, .string t] w fun e w' => e = .returned (.bool true) ∧ Below w.heap.size w w' := by
  subst he
  subst hf
  have KZ := Lib.hid kz
  have KF := Lib.hid kf
  clear kz kf
  have K3 := Lib.hid k3
  have KC := Lib.hid kc
  have KE := Lib.hid ke
  clear k3 kc ke
  have hwk : Calls Tryz.prog 21 #[] w fun e w' => e = .returned (.bool true) ∧ Below w.heap.size w w' := works_calls w hpw
  have HWK := Lib.hid hwk
  have HP := Lib.hid hpw
  have N := Lib.hid num_calls
  have K1 := Lib.hid k1
  have K2 := Lib.hid k2
  clear hwk hpw k1 k2
  go_enter Tryz.func9, Tryz.ntmps9
  go_upto_region 3 with (go_at_call 21; (with_reducible refine (HWK.out).mono ?_); rintro e' w1 ⟨rfl, hb⟩)
  have HP1 := Lib.hid (HP.out.below hb)
  have HB1 := Lib.hid hb
  clear hb
  go_upto_region 4 with (go_at_call 15; (with_reducible refine (K1.out _ HP1.out).mono ?_); rintro e' w2 ⟨rfl, hb⟩)
  have HP2 := Lib.hid (HP1.out.below hb)
  have HB2 := Lib.hid (HB1.out.trans (hb.mono HB1.out.size))
  clear hb HB1
  go_upto_region 5 with (go_at_call 15; (with_reducible refine (K2.out _ HP2.out).mono ?_); rintro e' w3 ⟨rfl, hb⟩)
  have HP3 := Lib.hid (HP2.out.below hb)
  have HB3 := Lib.hid (HB2.out.trans (hb.mono HB2.out.size))
  clear hb HB2
  go_upto_region 7 with fail
  obtain ⟨rx, ry, hb⟩ := box2 w3 (.cells #[.int .i64 3, .string s, .string T, .string ⟨#[]⟩] 33) (.cells #[.int .i64 3, .string t, .string T, .string ⟨#[]⟩] 33)
  generalize World.alloc (World.alloc w3 _) _ = w4 at rx ry hb ⊢
  have HP4 := Lib.hid (HP3.out.below hb)
  have HB4 := Lib.hid (HB3.out.trans (hb.mono HB3.out.size))
  have HRX := Lib.hid rx
  have HRY := Lib.hid ry
  clear hb HB3 HP3 rx ry
  go_upto_region 9 with (go_at_call 12; (with_reducible refine (N.out _ _).mono ?_); rintro e' w' ⟨rfl, rfl⟩)
  go_upto_region 10 with (go_at_call 15; (with_reducible refine (K3.out _ HP4.out).mono ?_); rintro e' w5 ⟨rfl, hb⟩)
  have HB5 := Lib.hid (HB4.out.trans (hb.mono HB4.out.size))
  replace HRX := Lib.hid ((hb.block _ (lt_of_block HRX.out)).trans HRX.out)
  replace HRY := Lib.hid ((hb.block _ (lt_of_block HRY.out)).trans HRY.out)
  clear hb HB4 HP4
  go_upto_region 11 with fail
  obtain ⟨rz, hb⟩ := box1 w5 (.cells #[.int .i64 3, .string A, .string T, .string ⟨#[]⟩] 33)
  generalize World.alloc w5 _ = w6 at rz hb ⊢
  have HB6 := Lib.hid (HB5.out.trans (hb.mono HB5.out.size))
  replace HRX := Lib.hid ((hb.block _ (lt_of_block HRX.out)).trans HRX.out)
  replace HRY := Lib.hid ((hb.block _ (lt_of_block HRY.out)).trans HRY.out)
  have HRZ := Lib.hid rz
  clear hb HB5 rz
  go_upto_region 13 with (first | (go_at_call 12; (with_reducible refine (N.out _ _).mono ?_); rintro e' w' ⟨rfl, rfl⟩) | (go_at_call 13; (with_reducible refine (KC.out _).mono ?_); rintro e' w7 ⟨rfl, hb7⟩; (have rx7 := (hb7.block _ (lt_of_block HRX.out)).trans HRX.out); (have rz7 := (hb7.block _ (lt_of_block HRZ.out)).trans HRZ.out); (have x0 := row_cell rx7 0); (have x1 := row_cell rx7 1); (have x2 := row_cell rx7 2); (have x3 := row_cell rx7 3); (have z0 := row_cell rz7 0); (have z1 := row_cell rz7 1); (have z2 := row_cell rz7 2); (have z3 := row_cell rz7 3); (simp at x0 x1 x2 x3 z0 z1 z2 z3); clear rx7 rz7) | (go_at_call 19; (with_reducible refine (KE.out _).mono ?_); rintro e' w8 ⟨rfl, hb8⟩))
  have HB8 := Lib.hid ((HB6.out.trans (hb7.mono HB6.out.size)).trans (hb8.mono (HB6.out.trans (hb7.mono HB6.out.size)).size))
  replace HRX := Lib.hid ((hb8.block _ (lt_of_block ((hb7.block _ (lt_of_block HRX.out)).trans HRX.out))).trans ((hb7.block _ (lt_of_block HRX.out)).trans HRX.out))
  replace HRY := Lib.hid ((hb8.block _ (lt_of_block ((hb7.block _ (lt_of_block HRY.out)).trans HRY.out))).trans ((hb7.block _ (lt_of_block HRY.out)).trans HRY.out))
  clear x0 x1 x2 x3 z0 z1 z2 z3 hb7 hb8 HB6 HRZ
  have rx8 := HRX.out
  have ry8 := HRY.out
  have x0 := row_cell rx8 0
  have x1 := row_cell rx8 1
  have x2 := row_cell rx8 2
  have x3 := row_cell rx8 3
  have y0 := row_cell ry8 0
  have y1 := row_cell ry8 1
  have y2 := row_cell ry8 2
  have y3 := row_cell ry8 3
  simp at x0 x1 x2 x3 y0 y1 y2 y3
  clear rx8 ry8
  go_wp2_with (first | (go_at_call 12; (with_reducible refine (N.out _ _).mono ?_); rintro e' w' ⟨rfl, rfl⟩) | (go_at_call 23; (with_reducible refine (KZ.out _).mono ?_); rintro e' w' ⟨rfl, rfl⟩) | (go_at_call 19; (with_reducible refine (KF.out _).mono ?_); rintro e' w9 ⟨rfl, hb9⟩))
  have hend := HB8.out.trans (hb9.mono HB8.out.size)
  go_ret
  exact ⟨rfl, hend⟩
theorem can_len (T s : List UInt8) (h : (canE T s).2 = 0) : (canE T s).1.length ≤ 65536 := by
  cases hk : kdOf T with
  | some k => exact (can_some hk h).2.2.2
  | none =>
    rw [can_none hk h]
    by_cases hc : chkE T s = 0
    · exact (chkE_zero hc).1
    · unfold canE at h; rw [if_pos hc] at h; exact absurd h hc
theorem settles_in (w : World) (T s t : ByteArray) (hT : T.size ≤ 9223372036854775807) (hs : s.size ≤ 9223372036854775807) (ht : t.size ≤ 9223372036854775807) (hpw : Pow w) :
    Calls Tryz.prog 9 #[.string T, .string s, .string t] w fun e w' => e = .returned (.bool true) ∧ Below w.heap.size w w' := by
  obtain ⟨q1, q2⟩ := settle T s t
  have k1 := fun w hp => canonical_calls T s w hp hs
  have k2 := fun w hp => canonical_calls T t w hp ht
  by_cases he : (canE T.data.toList s.data.toList).2 = 0
  · obtain ⟨r1, r2, r3, r4⟩ := q2 he
    have hl := can_len _ _ he
    obtain ⟨A, hA⟩ : ∃ A : ByteArray, A = ⟨(canE T.data.toList s.data.toList).1.toArray⟩ := ⟨_, rfl⟩
    have hAd : A.data.toList = (canE T.data.toList s.data.toList).1 := by rw [hA]
    have hAs : A.size ≤ 65536 := by rw [Lib.size_eq, hAd]; exact hl
    have k3 := fun w hp => canonical_calls T A w hp (by omega)
    have kc := fun w => vcheck_calls T A w (by omega)
    have ke := fun w => equal_calls (trmT T s) (trmT T A) w hs (by show A.size ≤ _; omega)
    rw [← hA] at r3 k1
    rw [hAd, r1, ← hAd] at k3
    rw [hAd, r2] at kc
    rw [r3] at ke
    have eA : (⟨A.data.toList.toArray⟩ : ByteArray) = A := str_mk A
    dsimp only at k3
    rw [eA] at k3
    by_cases hf : (canE T.data.toList t.data.toList).2 = 0
    · have kz := fun w => zoned_calls T w
      cases hz : znB T.data.toList with
      | true =>
        rw [hz] at kz
        exact st_zn w T s t A _ _ _ hpw k1 k2 k3 kc ke kz he hf
      | false =>
        rw [hz] at kz
        have r5 := r4 hf hz
        have kf := fun w => equal_calls (trmT T s) (trmT T t) w hs ht
        rw [r5] at kf
        by_cases hab : (canE T.data.toList s.data.toList).1 = (canE T.data.toList t.data.toList).1
        · rw [hab, beq_self_eq_true] at kf
          exact st_eq w T s t A _ _ _ hpw k1 k2 k3 kc ke kz kf he hf (by rw [hA, hab])
        · rw [beq_false_of_ne hab] at kf
          refine st_ne w T s t A _ _ _ ?_ hpw k1 k2 k3 kc ke kz kf he hf
          rw [Lib.toList_data, Lib.toList_data, hAd]
          exact beq_false_of_ne hab
    · exact st_oth w T s t A _ _ _ (beq_false_of_ne hf) hpw k1 k2 k3 kc ke he
  · have e := q1 he
    exact st_err w T s t _ _ _ _ he hpw k1 k2 (by rw [e])
end Go.Proofs.YtlhcejbimlilaaaGreatDoor
