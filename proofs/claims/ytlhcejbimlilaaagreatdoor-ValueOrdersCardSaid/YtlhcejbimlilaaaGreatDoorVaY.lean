/- VdR VdS VaY, laid as one. -/
import Derived.Test.YtlhcejbimlilaaaGreatDoorVdQ
import Derived.Test.YtlhcejbimlilaaaGreatDoorVaW
set_option linter.unusedVariables false
set_option linter.unusedSimpArgs false
/- The document's time: walks (written by gen_vdr.py). -/
namespace Go.Proofs.YtlhcejbimlilaaaGreatDoor
open Go.RowKit Go.Tk
/-- How a time ends. -/
def TiEnd (T f : ByteArray) (H M S : Int) (g : Nat) (m : Mo8) (w : World) (e : Ending) (w' : World) : Prop :=
  (H = 24 ∧ (M ≠ 0 ∨ S ≠ 0 ∨ f.data.toList ≠ []) → e = .returned (.tuple #[.string ⟨#[]⟩, .bool false])) ∧
  (¬ (H = 24 ∧ (M ≠ 0 ∨ S ≠ 0 ∨ f.data.toList ≠ [])) → e = .returned (.tuple #[.string T, .bool (decide (0 ≤ H) && (decide (0 ≤ M) && decide (0 ≤ S)))])) ∧
  MoAt w' g { m with h := H, mi := M, s := S, f := f } ∧ Below g w w'
def fLen : Option Value → Nat
  | some (.string f) => f.size
  | _ => 0
set_option maxRecDepth 100000 in
set_option maxHeartbeats 8000000 in
theorem ti_len (w : World) (g : Nat) (m : Mo8) (s : ByteArray) (hs : s.size ≤ 4000000000) (hl : (s.size : Int) < 8) (hr : MoAt w g m) :
    Calls Tryz.prog 91 #[.pointer (some ⟨g, 0, none⟩), .string s] w fun e w' => e = .returned (.tuple #[.string ⟨#[]⟩, .bool false]) ∧ w = w' := by
  clear hr
  go_enter Tryz.func91, Tryz.ntmps91
  go_wp2_with fail
  go_ret2
  exact ⟨rfl, rfl⟩
set_option maxRecDepth 100000 in
set_option maxHeartbeats 8000000 in
theorem ti_c2 (w : World) (g : Nat) (m : Mo8) (s : ByteArray) (hs : s.size ≤ 4000000000) (l2 : 2 < s.size) (l5 : 5 < s.size) (hl : 8 ≤ (s.size : Int)) (q2 : (((s[2]).toNat : Nat) : Int) ≠ 58) (hr : MoAt w g m) :
    Calls Tryz.prog 91 #[.pointer (some ⟨g, 0, none⟩), .string s] w fun e w' => e = .returned (.tuple #[.string ⟨#[]⟩, .bool false]) ∧ w = w' := by
  clear hr
  have q2b : ((((s[2]).toNat : Nat) : Int) != 58) = true := bne_iff_ne.2 q2
  go_enter Tryz.func91, Tryz.ntmps91
  go_wp2_with fail
  go_ret2
  exact ⟨rfl, rfl⟩
set_option maxRecDepth 100000 in
set_option maxHeartbeats 8000000 in
theorem ti_c5 (w : World) (g : Nat) (m : Mo8) (s : ByteArray) (hs : s.size ≤ 4000000000) (l2 : 2 < s.size) (l5 : 5 < s.size) (hl : 8 ≤ (s.size : Int)) (q2 : (((s[2]).toNat : Nat) : Int) = 58) (q5 : (((s[5]).toNat : Nat) : Int) ≠ 58) (hr : MoAt w g m) :
    Calls Tryz.prog 91 #[.pointer (some ⟨g, 0, none⟩), .string s] w fun e w' => e = .returned (.tuple #[.string ⟨#[]⟩, .bool false]) ∧ w = w' := by
  clear hr
  have q5b : ((((s[5]).toNat : Nat) : Int) != 58) = true := bne_iff_ne.2 q5
  go_enter Tryz.func91, Tryz.ntmps91
  go_wp2_with fail
  go_ret2
  exact ⟨rfl, rfl⟩
set_option maxRecDepth 100000 in
set_option maxHeartbeats 8000000 in
theorem ti_nd0 (w : World) (g : Nat) (m : Mo8) (s : ByteArray) (hs : s.size ≤ 4000000000) (l2 : 2 < s.size) (l5 : 5 < s.size) (hl : 8 ≤ (s.size : Int)) (q2 : (((s[2]).toNat : Nat) : Int) = 58) (q5 : (((s[5]).toNat : Nat) : Int) = 58) (H M S : Int) (A3 A6 T : ByteArray) (hA3 : s.extract 3 s.size = A3) (hA6 : s.extract 6 s.size = A6) (hT : s.extract 8 s.size = T) (hTs : T.size ≤ 4000000000) (bH : ∀ w, Calls Tryz.prog 130 #[.string s, .int .i64 0, .int .i64 24] w fun e w' => e = .returned (.int .i64 H) ∧ Below w.heap.size w w') (bM : ∀ w, Calls Tryz.prog 130 #[.string A3, .int .i64 0, .int .i64 59] w fun e w' => e = .returned (.int .i64 M) ∧ Below w.heap.size w w') (bS : ∀ w, Calls Tryz.prog 130 #[.string A6, .int .i64 0, .int .i64 59] w fun e w' => e = .returned (.int .i64 S) ∧ Below w.heap.size w w') (hf : m.f = ⟨#[]⟩) (te : (T.toList == []) = true) (hr : MoAt w g m) :
    Calls Tryz.prog 91 #[.pointer (some ⟨g, 0, none⟩), .string s] w fun e w' => TiEnd T ⟨#[]⟩ H M S g m w e w' := by
  have BH := Lib.hid bH
  have BM := Lib.hid bM
  have BS := Lib.hid bS
  have R := Lib.hid hr
  have B := Lib.hid (Below.refl g w)
  clear bH bM bS hr
  go_enter Tryz.func91, Tryz.ntmps91
  go_upto_region 3 with fail
  have ci := row_cell R.out 3
  have fz := R.out.froz
  simp [Mo8.cells] at ci
  go_upto_region 4 with (go_at_call 130; (with_reducible refine (BH.out _).mono ?_); rintro e' wx ⟨rfl, hbx⟩; (have Rx := R.out.next hbx); (have ci' := row_cell Rx 3); (have fz' := Rx.froz); (simp [Mo8.cells] at ci'))
  have Bx : Below g w wx := B.out.trans (hbx.mono (Nat.le_of_lt R.out.lt))
  have Ry : MoAt (wx.setCell ⟨g, 3, none⟩ (.int .i64 H)) g { m with h := H } := Rx.set 3 _ rfl
  have By : Below g w (wx.setCell ⟨g, 3, none⟩ (.int .i64 H)) := bel_set Bx 3 _
  generalize World.setCell wx _ _ = w3 at Ry By ⊢
  clear ci fz ci' fz' Rx Bx hbx
  replace R := Lib.hid Ry
  replace B := Lib.hid By
  clear Ry By
  have ci := row_cell R.out 4
  have fz := R.out.froz
  simp [Mo8.cells] at ci
  go_upto_region 5 with (go_at_call 130; (with_reducible refine (BM.out _).mono ?_); rintro e' wx ⟨rfl, hbx⟩; (have Rx := R.out.next hbx); (have ci' := row_cell Rx 4); (have fz' := Rx.froz); (simp [Mo8.cells] at ci'))
  have Bx : Below g w wx := B.out.trans (hbx.mono (Nat.le_of_lt R.out.lt))
  have Ry : MoAt (wx.setCell ⟨g, 4, none⟩ (.int .i64 M)) g { m with h := H, mi := M } := Rx.set 4 _ rfl
  have By : Below g w (wx.setCell ⟨g, 4, none⟩ (.int .i64 M)) := bel_set Bx 4 _
  generalize World.setCell wx _ _ = w4 at Ry By ⊢
  clear ci fz ci' fz' Rx Bx hbx
  replace R := Lib.hid Ry
  replace B := Lib.hid By
  clear Ry By
  have ci := row_cell R.out 5
  have fz := R.out.froz
  simp [Mo8.cells] at ci
  go_upto_region 6 with (go_at_call 130; (with_reducible refine (BS.out _).mono ?_); rintro e' wx ⟨rfl, hbx⟩; (have Rx := R.out.next hbx); (have ci' := row_cell Rx 5); (have fz' := Rx.froz); (simp [Mo8.cells] at ci'))
  have Bx : Below g w wx := B.out.trans (hbx.mono (Nat.le_of_lt R.out.lt))
  have Ry : MoAt (wx.setCell ⟨g, 5, none⟩ (.int .i64 S)) g { m with h := H, mi := M, s := S } := Rx.set 5 _ rfl
  have By : Below g w (wx.setCell ⟨g, 5, none⟩ (.int .i64 S)) := bel_set Bx 5 _
  generalize World.setCell wx _ _ = w5 at Ry By ⊢
  clear ci fz ci' fz' Rx Bx hbx
  replace R := Lib.hid Ry
  replace B := Lib.hid By
  clear Ry By
  go_upto_region 7 with fail
  have hm5 : ({ m with h := H, mi := M, s := S } : Mo8) = { m with h := H, mi := M, s := S, f := ⟨#[]⟩ } := by rw [← hf]
  rw [hm5] at R
  clear hm5 hf
  go_upto_region 15 with fail
  have c3 := row_cell R.out 3
  have c4 := row_cell R.out 4
  have c5 := row_cell R.out 5
  have c6 := row_cell R.out 6
  simp [Mo8.cells] at c3 c4 c5 c6
  by_cases b24 : H = 24
  · by_cases bm : M = 0
    · by_cases bs : S = 0
      ·
        go_upto_region 17 with fail
        clear c3 c4 c5 c6
        have qx := Lw.row R.out
        have x3 := fun x => (row_cell (qx x) 3)
        have x4 := fun x => (row_cell (qx x) 4)
        have x5 := fun x => (row_cell (qx x) 5)
        simp [Mo8.cells] at x3 x4 x5
        clear qx
        refine wp_region_lw (by kernel_rfl) (by kernel_rfl) ?_
        repeat (go_big_quiet_step (first | exact rfl))
        refine wpQuiet_nil ?_
        rintro ⟨w9, hb9⟩
        dsimp only
        have R9 := R.out.next hb9
        have B9 : Below g w w9 := B.out.trans (hb9.mono (Nat.le_of_lt R.out.lt))
        clear x3 x4 x5 hb9
        replace R := Lib.hid R9
        replace B := Lib.hid B9
        clear R9 B9
        go_wp2_with fail
        go_ret2
        exact ⟨fun h => absurd h (by rintro ⟨_, h | h | h⟩; exact h bm; exact h bs; exact h rfl), fun _ => by rw [b24, bm, bs]; rfl, R.out, B.out⟩
      · have bsb : (S != 0) = true := bne_iff_ne.2 bs
        go_wp2_with fail
        go_ret2
        exact ⟨fun _ => rfl, fun h => absurd ⟨b24, .inr (.inl bs)⟩ h, R.out, B.out⟩
    · have bmb : (M != 0) = true := bne_iff_ne.2 bm
      go_wp2_with fail
      go_ret2
      exact ⟨fun _ => rfl, fun h => absurd ⟨b24, .inl bm⟩ h, R.out, B.out⟩
  · have b24b : (H == 24) = false := beq_false_of_ne b24
    have B24 := Lib.hid b24
    clear b24
    by_cases g1 : 0 ≤ H
    · have g1b : decide (0 ≤ H) = true := decide_eq_true g1
      by_cases g2 : 0 ≤ M
      · have g2b : decide (0 ≤ M) = true := decide_eq_true g2
        go_upto_region 17 with fail
        clear c3 c4 c5 c6
        have qx := Lw.row R.out
        have x3 := fun x => (row_cell (qx x) 3)
        have x4 := fun x => (row_cell (qx x) 4)
        have x5 := fun x => (row_cell (qx x) 5)
        simp [Mo8.cells] at x3 x4 x5
        clear qx
        refine wp_region_lw (by kernel_rfl) (by kernel_rfl) ?_
        repeat (go_big_quiet_step (first | exact rfl))
        refine wpQuiet_nil ?_
        rintro ⟨w9, hb9⟩
        dsimp only
        have R9 := R.out.next hb9
        have B9 : Below g w w9 := B.out.trans (hb9.mono (Nat.le_of_lt R.out.lt))
        clear x3 x4 x5 hb9
        replace R := Lib.hid R9
        replace B := Lib.hid B9
        clear R9 B9
        go_wp2_with fail
        go_ret2
        exact ⟨fun h => absurd h (fun h => B24.out h.1), fun _ => by rw [g1b, g2b]; rfl, R.out, B.out⟩
      · have g2b : decide (0 ≤ M) = false := decide_eq_false g2
        clear g2
        go_upto_region 17 with fail
        clear c3 c4 c5 c6
        have qx := Lw.row R.out
        have x3 := fun x => (row_cell (qx x) 3)
        have x4 := fun x => (row_cell (qx x) 4)
        have x5 := fun x => (row_cell (qx x) 5)
        simp [Mo8.cells] at x3 x4 x5
        clear qx
        refine wp_region_lw (by kernel_rfl) (by kernel_rfl) ?_
        repeat (go_big_quiet_step (first | exact rfl))
        refine wpQuiet_nil ?_
        rintro ⟨w9, hb9⟩
        dsimp only
        have R9 := R.out.next hb9
        have B9 : Below g w w9 := B.out.trans (hb9.mono (Nat.le_of_lt R.out.lt))
        clear x3 x4 x5 hb9
        replace R := Lib.hid R9
        replace B := Lib.hid B9
        clear R9 B9
        go_wp2_with fail
        go_ret2
        exact ⟨fun h => absurd h (fun h => B24.out h.1), fun _ => by rw [g1b, g2b]; rfl, R.out, B.out⟩
    · have g1b : decide (0 ≤ H) = false := decide_eq_false g1
      clear g1
      go_upto_region 17 with fail
      clear c3 c4 c5 c6
      have qx := Lw.row R.out
      have x3 := fun x => (row_cell (qx x) 3)
      have x4 := fun x => (row_cell (qx x) 4)
      have x5 := fun x => (row_cell (qx x) 5)
      simp [Mo8.cells] at x3 x4 x5
      clear qx
      refine wp_region_lw (by kernel_rfl) (by kernel_rfl) ?_
      repeat (go_big_quiet_step (first | exact rfl))
      refine wpQuiet_nil ?_
      rintro ⟨w9, hb9⟩
      dsimp only
      have R9 := R.out.next hb9
      have B9 : Below g w w9 := B.out.trans (hb9.mono (Nat.le_of_lt R.out.lt))
      clear x3 x4 x5 hb9
      replace R := Lib.hid R9
      replace B := Lib.hid B9
      clear R9 B9
      go_wp2_with fail
      go_ret2
      exact ⟨fun h => absurd h (fun h => B24.out h.1), fun _ => by rw [g1b]; rfl, R.out, B.out⟩
set_option maxRecDepth 100000 in
set_option maxHeartbeats 8000000 in
theorem ti_nd1 (w : World) (g : Nat) (m : Mo8) (s : ByteArray) (hs : s.size ≤ 4000000000) (l2 : 2 < s.size) (l5 : 5 < s.size) (hl : 8 ≤ (s.size : Int)) (q2 : (((s[2]).toNat : Nat) : Int) = 58) (q5 : (((s[5]).toNat : Nat) : Int) = 58) (H M S : Int) (A3 A6 T : ByteArray) (hA3 : s.extract 3 s.size = A3) (hA6 : s.extract 6 s.size = A6) (hT : s.extract 8 s.size = T) (hTs : T.size ≤ 4000000000) (bH : ∀ w, Calls Tryz.prog 130 #[.string s, .int .i64 0, .int .i64 24] w fun e w' => e = .returned (.int .i64 H) ∧ Below w.heap.size w w') (bM : ∀ w, Calls Tryz.prog 130 #[.string A3, .int .i64 0, .int .i64 59] w fun e w' => e = .returned (.int .i64 M) ∧ Below w.heap.size w w') (bS : ∀ w, Calls Tryz.prog 130 #[.string A6, .int .i64 0, .int .i64 59] w fun e w' => e = .returned (.int .i64 S) ∧ Below w.heap.size w w') (hf : m.f = ⟨#[]⟩) (te : (T.toList == []) = false) (k0 : 0 < T.size) (z0 : (((T[0]).toNat : Nat) : Int) ≠ 46) (hr : MoAt w g m) :
    Calls Tryz.prog 91 #[.pointer (some ⟨g, 0, none⟩), .string s] w fun e w' => TiEnd T ⟨#[]⟩ H M S g m w e w' := by
  have z0b : ((((T[0]).toNat : Nat) : Int) == 46) = false := beq_false_of_ne z0
  have BH := Lib.hid bH
  have BM := Lib.hid bM
  have BS := Lib.hid bS
  have R := Lib.hid hr
  have B := Lib.hid (Below.refl g w)
  clear bH bM bS hr
  go_enter Tryz.func91, Tryz.ntmps91
  go_upto_region 3 with fail
  have ci := row_cell R.out 3
  have fz := R.out.froz
  simp [Mo8.cells] at ci
  go_upto_region 4 with (go_at_call 130; (with_reducible refine (BH.out _).mono ?_); rintro e' wx ⟨rfl, hbx⟩; (have Rx := R.out.next hbx); (have ci' := row_cell Rx 3); (have fz' := Rx.froz); (simp [Mo8.cells] at ci'))
  have Bx : Below g w wx := B.out.trans (hbx.mono (Nat.le_of_lt R.out.lt))
  have Ry : MoAt (wx.setCell ⟨g, 3, none⟩ (.int .i64 H)) g { m with h := H } := Rx.set 3 _ rfl
  have By : Below g w (wx.setCell ⟨g, 3, none⟩ (.int .i64 H)) := bel_set Bx 3 _
  generalize World.setCell wx _ _ = w3 at Ry By ⊢
  clear ci fz ci' fz' Rx Bx hbx
  replace R := Lib.hid Ry
  replace B := Lib.hid By
  clear Ry By
  have ci := row_cell R.out 4
  have fz := R.out.froz
  simp [Mo8.cells] at ci
  go_upto_region 5 with (go_at_call 130; (with_reducible refine (BM.out _).mono ?_); rintro e' wx ⟨rfl, hbx⟩; (have Rx := R.out.next hbx); (have ci' := row_cell Rx 4); (have fz' := Rx.froz); (simp [Mo8.cells] at ci'))
  have Bx : Below g w wx := B.out.trans (hbx.mono (Nat.le_of_lt R.out.lt))
  have Ry : MoAt (wx.setCell ⟨g, 4, none⟩ (.int .i64 M)) g { m with h := H, mi := M } := Rx.set 4 _ rfl
  have By : Below g w (wx.setCell ⟨g, 4, none⟩ (.int .i64 M)) := bel_set Bx 4 _
  generalize World.setCell wx _ _ = w4 at Ry By ⊢
  clear ci fz ci' fz' Rx Bx hbx
  replace R := Lib.hid Ry
  replace B := Lib.hid By
  clear Ry By
  have ci := row_cell R.out 5
  have fz := R.out.froz
  simp [Mo8.cells] at ci
  go_upto_region 6 with (go_at_call 130; (with_reducible refine (BS.out _).mono ?_); rintro e' wx ⟨rfl, hbx⟩; (have Rx := R.out.next hbx); (have ci' := row_cell Rx 5); (have fz' := Rx.froz); (simp [Mo8.cells] at ci'))
  have Bx : Below g w wx := B.out.trans (hbx.mono (Nat.le_of_lt R.out.lt))
  have Ry : MoAt (wx.setCell ⟨g, 5, none⟩ (.int .i64 S)) g { m with h := H, mi := M, s := S } := Rx.set 5 _ rfl
  have By : Below g w (wx.setCell ⟨g, 5, none⟩ (.int .i64 S)) := bel_set Bx 5 _
  generalize World.setCell wx _ _ = w5 at Ry By ⊢
  clear ci fz ci' fz' Rx Bx hbx
  replace R := Lib.hid Ry
  replace B := Lib.hid By
  clear Ry By
  go_upto_region 7 with fail
  have hm5 : ({ m with h := H, mi := M, s := S } : Mo8) = { m with h := H, mi := M, s := S, f := ⟨#[]⟩ } := by rw [← hf]
  rw [hm5] at R
  clear hm5 hf
  go_upto_region 15 with fail
  have c3 := row_cell R.out 3
  have c4 := row_cell R.out 4
  have c5 := row_cell R.out 5
  have c6 := row_cell R.out 6
  simp [Mo8.cells] at c3 c4 c5 c6
  by_cases b24 : H = 24
  · by_cases bm : M = 0
    · by_cases bs : S = 0
      ·
        go_upto_region 17 with fail
        clear c3 c4 c5 c6
        have qx := Lw.row R.out
        have x3 := fun x => (row_cell (qx x) 3)
        have x4 := fun x => (row_cell (qx x) 4)
        have x5 := fun x => (row_cell (qx x) 5)
        simp [Mo8.cells] at x3 x4 x5
        clear qx
        refine wp_region_lw (by kernel_rfl) (by kernel_rfl) ?_
        repeat (go_big_quiet_step (first | exact rfl))
        refine wpQuiet_nil ?_
        rintro ⟨w9, hb9⟩
        dsimp only
        have R9 := R.out.next hb9
        have B9 : Below g w w9 := B.out.trans (hb9.mono (Nat.le_of_lt R.out.lt))
        clear x3 x4 x5 hb9
        replace R := Lib.hid R9
        replace B := Lib.hid B9
        clear R9 B9
        go_wp2_with fail
        go_ret2
        exact ⟨fun h => absurd h (by rintro ⟨_, h | h | h⟩; exact h bm; exact h bs; exact h rfl), fun _ => by rw [b24, bm, bs]; rfl, R.out, B.out⟩
      · have bsb : (S != 0) = true := bne_iff_ne.2 bs
        go_wp2_with fail
        go_ret2
        exact ⟨fun _ => rfl, fun h => absurd ⟨b24, .inr (.inl bs)⟩ h, R.out, B.out⟩
    · have bmb : (M != 0) = true := bne_iff_ne.2 bm
      go_wp2_with fail
      go_ret2
      exact ⟨fun _ => rfl, fun h => absurd ⟨b24, .inl bm⟩ h, R.out, B.out⟩
  · have b24b : (H == 24) = false := beq_false_of_ne b24
    have B24 := Lib.hid b24
    clear b24
    by_cases g1 : 0 ≤ H
    · have g1b : decide (0 ≤ H) = true := decide_eq_true g1
      by_cases g2 : 0 ≤ M
      · have g2b : decide (0 ≤ M) = true := decide_eq_true g2
        go_upto_region 17 with fail
        clear c3 c4 c5 c6
        have qx := Lw.row R.out
        have x3 := fun x => (row_cell (qx x) 3)
        have x4 := fun x => (row_cell (qx x) 4)
        have x5 := fun x => (row_cell (qx x) 5)
        simp [Mo8.cells] at x3 x4 x5
        clear qx
        refine wp_region_lw (by kernel_rfl) (by kernel_rfl) ?_
        repeat (go_big_quiet_step (first | exact rfl))
        refine wpQuiet_nil ?_
        rintro ⟨w9, hb9⟩
        dsimp only
        have R9 := R.out.next hb9
        have B9 : Below g w w9 := B.out.trans (hb9.mono (Nat.le_of_lt R.out.lt))
        clear x3 x4 x5 hb9
        replace R := Lib.hid R9
        replace B := Lib.hid B9
        clear R9 B9
        go_wp2_with fail
        go_ret2
        exact ⟨fun h => absurd h (fun h => B24.out h.1), fun _ => by rw [g1b, g2b]; rfl, R.out, B.out⟩
      · have g2b : decide (0 ≤ M) = false := decide_eq_false g2
        clear g2
        go_upto_region 17 with fail
        clear c3 c4 c5 c6
        have qx := Lw.row R.out
        have x3 := fun x => (row_cell (qx x) 3)
        have x4 := fun x => (row_cell (qx x) 4)
        have x5 := fun x => (row_cell (qx x) 5)
        simp [Mo8.cells] at x3 x4 x5
        clear qx
        refine wp_region_lw (by kernel_rfl) (by kernel_rfl) ?_
        repeat (go_big_quiet_step (first | exact rfl))
        refine wpQuiet_nil ?_
        rintro ⟨w9, hb9⟩
        dsimp only
        have R9 := R.out.next hb9
        have B9 : Below g w w9 := B.out.trans (hb9.mono (Nat.le_of_lt R.out.lt))
        clear x3 x4 x5 hb9
        replace R := Lib.hid R9
        replace B := Lib.hid B9
        clear R9 B9
        go_wp2_with fail
        go_ret2
        exact ⟨fun h => absurd h (fun h => B24.out h.1), fun _ => by rw [g1b, g2b]; rfl, R.out, B.out⟩
    · have g1b : decide (0 ≤ H) = false := decide_eq_false g1
      clear g1
      go_upto_region 17 with fail
      clear c3 c4 c5 c6
      have qx := Lw.row R.out
      have x3 := fun x => (row_cell (qx x) 3)
      have x4 := fun x => (row_cell (qx x) 4)
      have x5 := fun x => (row_cell (qx x) 5)
      simp [Mo8.cells] at x3 x4 x5
      clear qx
      refine wp_region_lw (by kernel_rfl) (by kernel_rfl) ?_
      repeat (go_big_quiet_step (first | exact rfl))
      refine wpQuiet_nil ?_
      rintro ⟨w9, hb9⟩
      dsimp only
      have R9 := R.out.next hb9
      have B9 : Below g w w9 := B.out.trans (hb9.mono (Nat.le_of_lt R.out.lt))
      clear x3 x4 x5 hb9
      replace R := Lib.hid R9
      replace B := Lib.hid B9
      clear R9 B9
      go_wp2_with fail
      go_ret2
      exact ⟨fun h => absurd h (fun h => B24.out h.1), fun _ => by rw [g1b]; rfl, R.out, B.out⟩
set_option maxRecDepth 100000 in
set_option maxHeartbeats 8000000 in
theorem ti_n0 (w : World) (g : Nat) (m : Mo8) (s : ByteArray) (hs : s.size ≤ 4000000000) (l2 : 2 < s.size) (l5 : 5 < s.size) (hl : 8 ≤ (s.size : Int)) (q2 : (((s[2]).toNat : Nat) : Int) = 58) (q5 : (((s[5]).toNat : Nat) : Int) = 58) (H M S : Int) (A3 A6 T : ByteArray) (hA3 : s.extract 3 s.size = A3) (hA6 : s.extract 6 s.size = A6) (hT : s.extract 8 s.size = T) (hTs : T.size ≤ 4000000000) (bH : ∀ w, Calls Tryz.prog 130 #[.string s, .int .i64 0, .int .i64 24] w fun e w' => e = .returned (.int .i64 H) ∧ Below w.heap.size w w') (bM : ∀ w, Calls Tryz.prog 130 #[.string A3, .int .i64 0, .int .i64 59] w fun e w' => e = .returned (.int .i64 M) ∧ Below w.heap.size w w') (bS : ∀ w, Calls Tryz.prog 130 #[.string A6, .int .i64 0, .int .i64 59] w fun e w' => e = .returned (.int .i64 S) ∧ Below w.heap.size w w') (te : (T.toList == []) = false) (k0 : 0 < T.size) (z0 : (((T[0]).toNat : Nat) : Int) = 46) (T1 : ByteArray) (hT1 : T.extract 1 T.size = T1) (hrn : ∀ w, Calls Tryz.prog 108 #[.string T1] w fun e w' => e = .returned (.int .i64 0) ∧ w = w') (hr : MoAt w g m) :
    Calls Tryz.prog 91 #[.pointer (some ⟨g, 0, none⟩), .string s] w fun e w' => e = .returned (.tuple #[.string ⟨#[]⟩, .bool false]) ∧ MoAt w' g { m with h := H, mi := M, s := S } ∧ Below g w w' := by
  have HRN := Lib.hid hrn
  clear hrn
  have BH := Lib.hid bH
  have BM := Lib.hid bM
  have BS := Lib.hid bS
  have R := Lib.hid hr
  have B := Lib.hid (Below.refl g w)
  clear bH bM bS hr
  go_enter Tryz.func91, Tryz.ntmps91
  go_upto_region 3 with fail
  have ci := row_cell R.out 3
  have fz := R.out.froz
  simp [Mo8.cells] at ci
  go_upto_region 4 with (go_at_call 130; (with_reducible refine (BH.out _).mono ?_); rintro e' wx ⟨rfl, hbx⟩; (have Rx := R.out.next hbx); (have ci' := row_cell Rx 3); (have fz' := Rx.froz); (simp [Mo8.cells] at ci'))
  have Bx : Below g w wx := B.out.trans (hbx.mono (Nat.le_of_lt R.out.lt))
  have Ry : MoAt (wx.setCell ⟨g, 3, none⟩ (.int .i64 H)) g { m with h := H } := Rx.set 3 _ rfl
  have By : Below g w (wx.setCell ⟨g, 3, none⟩ (.int .i64 H)) := bel_set Bx 3 _
  generalize World.setCell wx _ _ = w3 at Ry By ⊢
  clear ci fz ci' fz' Rx Bx hbx
  replace R := Lib.hid Ry
  replace B := Lib.hid By
  clear Ry By
  have ci := row_cell R.out 4
  have fz := R.out.froz
  simp [Mo8.cells] at ci
  go_upto_region 5 with (go_at_call 130; (with_reducible refine (BM.out _).mono ?_); rintro e' wx ⟨rfl, hbx⟩; (have Rx := R.out.next hbx); (have ci' := row_cell Rx 4); (have fz' := Rx.froz); (simp [Mo8.cells] at ci'))
  have Bx : Below g w wx := B.out.trans (hbx.mono (Nat.le_of_lt R.out.lt))
  have Ry : MoAt (wx.setCell ⟨g, 4, none⟩ (.int .i64 M)) g { m with h := H, mi := M } := Rx.set 4 _ rfl
  have By : Below g w (wx.setCell ⟨g, 4, none⟩ (.int .i64 M)) := bel_set Bx 4 _
  generalize World.setCell wx _ _ = w4 at Ry By ⊢
  clear ci fz ci' fz' Rx Bx hbx
  replace R := Lib.hid Ry
  replace B := Lib.hid By
  clear Ry By
  have ci := row_cell R.out 5
  have fz := R.out.froz
  simp [Mo8.cells] at ci
  go_upto_region 6 with (go_at_call 130; (with_reducible refine (BS.out _).mono ?_); rintro e' wx ⟨rfl, hbx⟩; (have Rx := R.out.next hbx); (have ci' := row_cell Rx 5); (have fz' := Rx.froz); (simp [Mo8.cells] at ci'))
  have Bx : Below g w wx := B.out.trans (hbx.mono (Nat.le_of_lt R.out.lt))
  have Ry : MoAt (wx.setCell ⟨g, 5, none⟩ (.int .i64 S)) g { m with h := H, mi := M, s := S } := Rx.set 5 _ rfl
  have By : Below g w (wx.setCell ⟨g, 5, none⟩ (.int .i64 S)) := bel_set Bx 5 _
  generalize World.setCell wx _ _ = w5 at Ry By ⊢
  clear ci fz ci' fz' Rx Bx hbx
  replace R := Lib.hid Ry
  replace B := Lib.hid By
  clear Ry By
  go_upto_region 7 with fail
  go_wp2_with (go_at_call 108; (with_reducible refine (HRN.out _).mono ?_); rintro e' w' ⟨rfl, rfl⟩)
  go_ret2
  exact ⟨rfl, R.out, B.out⟩
set_option maxRecDepth 100000 in
set_option maxHeartbeats 8000000 in
theorem ti_dot (w : World) (g : Nat) (m : Mo8) (s : ByteArray) (hs : s.size ≤ 4000000000) (l2 : 2 < s.size) (l5 : 5 < s.size) (hl : 8 ≤ (s.size : Int)) (q2 : (((s[2]).toNat : Nat) : Int) = 58) (q5 : (((s[5]).toNat : Nat) : Int) = 58) (H M S : Int) (A3 A6 T : ByteArray) (hA3 : s.extract 3 s.size = A3) (hA6 : s.extract 6 s.size = A6) (hT : s.extract 8 s.size = T) (hTs : T.size ≤ 4000000000) (bH : ∀ w, Calls Tryz.prog 130 #[.string s, .int .i64 0, .int .i64 24] w fun e w' => e = .returned (.int .i64 H) ∧ Below w.heap.size w w') (bM : ∀ w, Calls Tryz.prog 130 #[.string A3, .int .i64 0, .int .i64 59] w fun e w' => e = .returned (.int .i64 M) ∧ Below w.heap.size w w') (bS : ∀ w, Calls Tryz.prog 130 #[.string A6, .int .i64 0, .int .i64 59] w fun e w' => e = .returned (.int .i64 S) ∧ Below w.heap.size w w') (te : (T.toList == []) = false) (k0 : 0 < T.size) (z0 : (((T[0]).toNat : Nat) : Int) = 46) (T1 : ByteArray) (hT1 : T.extract 1 T.size = T1) (n : Nat) (hrn : ∀ w, Calls Tryz.prog 108 #[.string T1] w fun e w' => e = .returned (.int .i64 (n : Nat)) ∧ w = w') (n0 : (n : Int) ≠ 0) (hn : n + 1 ≤ T.size) (F0 T2 : ByteArray) (hF0 : T.extract 1 (1 + n) = F0) (hT2 : T.extract (1 + n) T.size = T2) (hT2s : T2.size ≤ 4000000000) (hFs : F0.size ≤ 4000000000) (hr : MoAt w g m) :
    Calls Tryz.prog 91 #[.pointer (some ⟨g, 0, none⟩), .string s] w fun e w' => ∃ f : ByteArray, f.data.toList = tr0 F0.data.toList ∧ TiEnd T2 f H M S g m w e w' := by
  have HRN := Lib.hid hrn
  have n0b : ((n : Int) == 0) = false := beq_false_of_ne n0
  have kn : IntKind.i64.wrap (1 + (n : Int)) = 1 + (n : Int) := by rw [IntKind.wrap_i64]; omega
  have kn2 : (1 + (n : Int)).toNat = 1 + n := by omega
  clear hrn
  have BH := Lib.hid bH
  have BM := Lib.hid bM
  have BS := Lib.hid bS
  have R := Lib.hid hr
  have B := Lib.hid (Below.refl g w)
  clear bH bM bS hr
  go_enter Tryz.func91, Tryz.ntmps91
  go_upto_region 3 with fail
  have ci := row_cell R.out 3
  have fz := R.out.froz
  simp [Mo8.cells] at ci
  go_upto_region 4 with (go_at_call 130; (with_reducible refine (BH.out _).mono ?_); rintro e' wx ⟨rfl, hbx⟩; (have Rx := R.out.next hbx); (have ci' := row_cell Rx 3); (have fz' := Rx.froz); (simp [Mo8.cells] at ci'))
  have Bx : Below g w wx := B.out.trans (hbx.mono (Nat.le_of_lt R.out.lt))
  have Ry : MoAt (wx.setCell ⟨g, 3, none⟩ (.int .i64 H)) g { m with h := H } := Rx.set 3 _ rfl
  have By : Below g w (wx.setCell ⟨g, 3, none⟩ (.int .i64 H)) := bel_set Bx 3 _
  generalize World.setCell wx _ _ = w3 at Ry By ⊢
  clear ci fz ci' fz' Rx Bx hbx
  replace R := Lib.hid Ry
  replace B := Lib.hid By
  clear Ry By
  have ci := row_cell R.out 4
  have fz := R.out.froz
  simp [Mo8.cells] at ci
  go_upto_region 5 with (go_at_call 130; (with_reducible refine (BM.out _).mono ?_); rintro e' wx ⟨rfl, hbx⟩; (have Rx := R.out.next hbx); (have ci' := row_cell Rx 4); (have fz' := Rx.froz); (simp [Mo8.cells] at ci'))
  have Bx : Below g w wx := B.out.trans (hbx.mono (Nat.le_of_lt R.out.lt))
  have Ry : MoAt (wx.setCell ⟨g, 4, none⟩ (.int .i64 M)) g { m with h := H, mi := M } := Rx.set 4 _ rfl
  have By : Below g w (wx.setCell ⟨g, 4, none⟩ (.int .i64 M)) := bel_set Bx 4 _
  generalize World.setCell wx _ _ = w4 at Ry By ⊢
  clear ci fz ci' fz' Rx Bx hbx
  replace R := Lib.hid Ry
  replace B := Lib.hid By
  clear Ry By
  have ci := row_cell R.out 5
  have fz := R.out.froz
  simp [Mo8.cells] at ci
  go_upto_region 6 with (go_at_call 130; (with_reducible refine (BS.out _).mono ?_); rintro e' wx ⟨rfl, hbx⟩; (have Rx := R.out.next hbx); (have ci' := row_cell Rx 5); (have fz' := Rx.froz); (simp [Mo8.cells] at ci'))
  have Bx : Below g w wx := B.out.trans (hbx.mono (Nat.le_of_lt R.out.lt))
  have Ry : MoAt (wx.setCell ⟨g, 5, none⟩ (.int .i64 S)) g { m with h := H, mi := M, s := S } := Rx.set 5 _ rfl
  have By : Below g w (wx.setCell ⟨g, 5, none⟩ (.int .i64 S)) := bel_set Bx 5 _
  generalize World.setCell wx _ _ = w5 at Ry By ⊢
  clear ci fz ci' fz' Rx Bx hbx
  replace R := Lib.hid Ry
  replace B := Lib.hid By
  clear Ry By
  go_upto_region 7 with fail
  have c6 := row_cell R.out 6
  have fz := R.out.froz
  simp [Mo8.cells] at c6
  go_upto_region 11 with (go_at_call 108; (with_reducible refine (HRN.out _).mono ?_); rintro e' w' ⟨rfl, rfl⟩)
  have R6 : MoAt (w5.setCell ⟨g, 6, none⟩ (.string F0)) g { m with h := H, mi := M, s := S, f := F0 } := R.out.set 6 _ rfl
  have B6 : Below g w (w5.setCell ⟨g, 6, none⟩ (.string F0)) := bel_set B.out 6 _
  replace R := Lib.hid R6
  replace B := Lib.hid B6
  clear R6 B6
  go_wp2_with fail
  clear c6 fz
  generalize World.setCell w5 _ _ = w6 at R B ⊢
  go_loopw [58] (fun _ wr => ∃ f : ByteArray, f.size ≤ F0.size ∧ MoAt wr g { m with h := H, mi := M, s := S, f := f } ∧ Below g w wr ∧ tr0 F0.data.toList = tr0 f.data.toList) (fun _ wr => fLen (wr.cell? ⟨g, 6, none⟩))
  case atStart => exact ⟨F0, Nat.le_refl _, R.out, B.out, rfl⟩
  case round =>
    clear R B
    obtain ⟨f, hfs, R0, B0, htr⟩ := hrel
    have R := Lib.hid R0
    have B := Lib.hid B0
    have HTR := Lib.hid htr
    have qx := Lw.row R0
    have x6 := fun x => (row_cell (qx x) 6)
    simp [Mo8.cells] at x6
    have hm6 := row_cell R0 6
    have HM6 := Lib.hid hm6
    clear qx R0 B0 htr hm6
    by_cases fe : f.data.toList = []
    · have feb : (f.toList == []) = true := by rw [Lib.toList_data, fe]; rfl
      have hfe : f.data.toList = tr0 F0.data.toList := by rw [HTR.out, fe]; rfl
      have HFE := Lib.hid hfe
      clear hfe
      have BF := Lib.hid fe
      clear fe HTR HM6
      go_upto_region 12 with fail
      refine wp_region_lw (by kernel_rfl) (by kernel_rfl) ?_
      repeat (go_big_quiet_step (first | exact rfl))
      refine wpQuiet_nil ?_
      rintro ⟨w8, hb8⟩
      dsimp only
      have R9 := R.out.next hb8
      have B9 : Below g w w8 := B.out.trans (hb8.mono (Nat.le_of_lt R.out.lt))
      clear x6 hb8
      replace R := Lib.hid R9
      replace B := Lib.hid B9
      clear R9 B9
      go_upto_region 15 with fail
      clear hfs
      have c3 := row_cell R.out 3
      have c4 := row_cell R.out 4
      have c5 := row_cell R.out 5
      have c6 := row_cell R.out 6
      simp [Mo8.cells] at c3 c4 c5 c6
      by_cases b24 : H = 24
      · by_cases bm : M = 0
        · by_cases bs : S = 0
          ·
            go_upto_region 17 with fail
            clear c3 c4 c5 c6
            have qx := Lw.row R.out
            have x3 := fun x => (row_cell (qx x) 3)
            have x4 := fun x => (row_cell (qx x) 4)
            have x5 := fun x => (row_cell (qx x) 5)
            simp [Mo8.cells] at x3 x4 x5
            clear qx
            refine wp_region_lw (by kernel_rfl) (by kernel_rfl) ?_
            repeat (go_big_quiet_step (first | exact rfl))
            refine wpQuiet_nil ?_
            rintro ⟨w9, hb9⟩
            dsimp only
            have R9 := R.out.next hb9
            have B9 : Below g w w9 := B.out.trans (hb9.mono (Nat.le_of_lt R.out.lt))
            clear x3 x4 x5 hb9
            replace R := Lib.hid R9
            replace B := Lib.hid B9
            clear R9 B9
            go_wp2_with fail
            go_ret2
            exact ⟨f, HFE.out, fun h => absurd h (by rintro ⟨_, h | h | h⟩; exact h bm; exact h bs; exact h BF.out), fun _ => by rw [b24, bm, bs]; rfl, R.out, B.out⟩
          · have bsb : (S != 0) = true := bne_iff_ne.2 bs
            go_wp2_with fail
            go_ret2
            exact ⟨f, HFE.out, fun _ => rfl, fun h => absurd ⟨b24, .inr (.inl bs)⟩ h, R.out, B.out⟩
        · have bmb : (M != 0) = true := bne_iff_ne.2 bm
          go_wp2_with fail
          go_ret2
          exact ⟨f, HFE.out, fun _ => rfl, fun h => absurd ⟨b24, .inl bm⟩ h, R.out, B.out⟩
      · have b24b : (H == 24) = false := beq_false_of_ne b24
        have B24 := Lib.hid b24
        clear b24
        by_cases g1 : 0 ≤ H
        · have g1b : decide (0 ≤ H) = true := decide_eq_true g1
          by_cases g2 : 0 ≤ M
          · have g2b : decide (0 ≤ M) = true := decide_eq_true g2
            go_upto_region 17 with fail
            clear c3 c4 c5 c6
            have qx := Lw.row R.out
            have x3 := fun x => (row_cell (qx x) 3)
            have x4 := fun x => (row_cell (qx x) 4)
            have x5 := fun x => (row_cell (qx x) 5)
            simp [Mo8.cells] at x3 x4 x5
            clear qx
            refine wp_region_lw (by kernel_rfl) (by kernel_rfl) ?_
            repeat (go_big_quiet_step (first | exact rfl))
            refine wpQuiet_nil ?_
            rintro ⟨w9, hb9⟩
            dsimp only
            have R9 := R.out.next hb9
            have B9 : Below g w w9 := B.out.trans (hb9.mono (Nat.le_of_lt R.out.lt))
            clear x3 x4 x5 hb9
            replace R := Lib.hid R9
            replace B := Lib.hid B9
            clear R9 B9
            go_wp2_with fail
            go_ret2
            exact ⟨f, HFE.out, fun h => absurd h (fun h => B24.out h.1), fun _ => by rw [g1b, g2b]; rfl, R.out, B.out⟩
          · have g2b : decide (0 ≤ M) = false := decide_eq_false g2
            clear g2
            go_upto_region 17 with fail
            clear c3 c4 c5 c6
            have qx := Lw.row R.out
            have x3 := fun x => (row_cell (qx x) 3)
            have x4 := fun x => (row_cell (qx x) 4)
            have x5 := fun x => (row_cell (qx x) 5)
            simp [Mo8.cells] at x3 x4 x5
            clear qx
            refine wp_region_lw (by kernel_rfl) (by kernel_rfl) ?_
            repeat (go_big_quiet_step (first | exact rfl))
            refine wpQuiet_nil ?_
            rintro ⟨w9, hb9⟩
            dsimp only
            have R9 := R.out.next hb9
            have B9 : Below g w w9 := B.out.trans (hb9.mono (Nat.le_of_lt R.out.lt))
            clear x3 x4 x5 hb9
            replace R := Lib.hid R9
            replace B := Lib.hid B9
            clear R9 B9
            go_wp2_with fail
            go_ret2
            exact ⟨f, HFE.out, fun h => absurd h (fun h => B24.out h.1), fun _ => by rw [g1b, g2b]; rfl, R.out, B.out⟩
        · have g1b : decide (0 ≤ H) = false := decide_eq_false g1
          clear g1
          go_upto_region 17 with fail
          clear c3 c4 c5 c6
          have qx := Lw.row R.out
          have x3 := fun x => (row_cell (qx x) 3)
          have x4 := fun x => (row_cell (qx x) 4)
          have x5 := fun x => (row_cell (qx x) 5)
          simp [Mo8.cells] at x3 x4 x5
          clear qx
          refine wp_region_lw (by kernel_rfl) (by kernel_rfl) ?_
          repeat (go_big_quiet_step (first | exact rfl))
          refine wpQuiet_nil ?_
          rintro ⟨w9, hb9⟩
          dsimp only
          have R9 := R.out.next hb9
          have B9 : Below g w w9 := B.out.trans (hb9.mono (Nat.le_of_lt R.out.lt))
          clear x3 x4 x5 hb9
          replace R := Lib.hid R9
          replace B := Lib.hid B9
          clear R9 B9
          go_wp2_with fail
          go_ret2
          exact ⟨f, HFE.out, fun h => absurd h (fun h => B24.out h.1), fun _ => by rw [g1b]; rfl, R.out, B.out⟩
    · have feb : (f.toList == []) = false := by rw [Lib.toList_data]; exact beq_false_of_ne fe
      have hfl : 0 < f.size := by
        rw [Lib.size_eq]; exact List.length_pos_iff.2 fe
      obtain ⟨p, hp⟩ : ∃ p, p + 1 = f.size := ⟨f.size - 1, by omega⟩
      have hpl : p < f.size := by omega
      have hpk : p < f.data.toList.length := by rw [← Lib.size_eq]; exact hpl
      have hsnoc : f.data.toList = f.data.toList.take p ++ [f[p]] := by
        have h1 := List.take_append_drop p f.data.toList
        rw [List.drop_eq_getElem_cons hpk, List.drop_of_length_le (by rw [← Lib.size_eq]; omega), ba_get f p hpl] at h1
        exact h1.symm
      have kp : IntKind.i64.wrap ((f.size : Int) - 1) = (p : Int) := by rw [IntKind.wrap_i64]; omega
      have kp2 : (f.size : Int) - 1 = (p : Int) := by omega
      have HP := Lib.hid hp
      have BF := Lib.hid fe
      have HSN := Lib.hid hsnoc
      clear fe hp hsnoc
      by_cases c48 : f[p] = 48
      · have x48 : (((f[p]).toNat : Nat) : Int) = 48 := by rw [c48]; rfl
        obtain ⟨f2, hf2⟩ : ∃ f2, f.extract 0 p = f2 := ⟨_, rfl⟩
        have hf2d : f2.data.toList = f.data.toList.take p := by rw [← hf2, ex_take]
        have hf2s : f2.size = p := by rw [Lib.size_eq, hf2d, List.length_take, ← Lib.size_eq]; omega
        have htr2 : tr0 F0.data.toList = tr0 f2.data.toList := by
          have h1 := HTR.out
          rw [HSN.out, c48, tr0_more, ← hf2d] at h1
          exact h1
        have HTR2 := Lib.hid htr2
        have HF2S := Lib.hid hf2s
        clear htr2 hf2d hf2s c48 HSN HTR
        go_upto_region 12 with fail
        refine wp_region_lw (by kernel_rfl) (by kernel_rfl) ?_
        repeat (go_big_quiet_step (first | exact rfl))
        refine wpQuiet_nil ?_
        rintro ⟨w8, hb8⟩
        dsimp only
        have R9 := R.out.next hb8
        have B9 : Below g w w8 := B.out.trans (hb8.mono (Nat.le_of_lt R.out.lt))
        clear x6 hb8
        replace R := Lib.hid R9
        replace B := Lib.hid B9
        clear R9 B9
        have qx := Lw.row R.out
        have x6 := fun x => (row_cell (qx x) 6)
        simp [Mo8.cells] at x6
        clear qx
        go_upto_region 13 with fail
        refine wp_region_lw_tail 14 (by kernel_rfl) (by kernel_rfl) ?_
        simp only [List.take_succ_cons, List.take_zero, List.drop_succ_cons, List.drop_zero]
        repeat (go_big_quiet_step (first | exact rfl))
        refine wpQuiet_nil ?_
        rintro ⟨w9, hb9⟩
        dsimp only
        clear x6
        have R9 := R.out.next hb9
        have B9 : Below g w w9 := B.out.trans (hb9.mono (Nat.le_of_lt R.out.lt))
        have c6 := row_cell R9 6
        have fz := R9.froz
        simp [Mo8.cells] at c6
        have R10 : MoAt (w9.setCell ⟨g, 6, none⟩ (.string f2)) g { m with h := H, mi := M, s := S, f := f2 } := R9.set 6 _ rfl
        have B10 : Below g w (w9.setCell ⟨g, 6, none⟩ (.string f2)) := bel_set B9 6 _
        clear R9 B9 hb9
        have HR10 := Lib.hid R10
        have HB10 := Lib.hid B10
        clear R10 B10
        go_wp2_with fail
        go_roundw
        case rel => exact ⟨f2, by have := HF2S.out; have := HP.out; omega, HR10.out, HB10.out, HTR2.out⟩
        case measure =>
          have h1 := row_cell HR10.out 6
          have h2 := HM6.out
          have := HF2S.out
          have := HP.out
          simp [Mo8.cells] at h1 h2
          simp [fLen, h1, h2]
          omega
      · have x48 : ((((f[p]).toNat : Nat) : Int) == 48) = false := beq_false_of_ne fun e => c48 (UInt8.toNat.inj (by have : (48 : UInt8).toNat = 48 := rfl; omega))
        have hfe : f.data.toList = tr0 F0.data.toList := by rw [HTR.out, HSN.out, tr0_last _ c48]
        have HFE := Lib.hid hfe
        clear hfe
        clear c48 HSN HTR HM6
        go_upto_region 12 with fail
        refine wp_region_lw (by kernel_rfl) (by kernel_rfl) ?_
        repeat (go_big_quiet_step (first | exact rfl))
        refine wpQuiet_nil ?_
        rintro ⟨w8, hb8⟩
        dsimp only
        have R9 := R.out.next hb8
        have B9 : Below g w w8 := B.out.trans (hb8.mono (Nat.le_of_lt R.out.lt))
        clear x6 hb8
        replace R := Lib.hid R9
        replace B := Lib.hid B9
        clear R9 B9
        go_upto_region 15 with fail
        clear hfs
        have c3 := row_cell R.out 3
        have c4 := row_cell R.out 4
        have c5 := row_cell R.out 5
        have c6 := row_cell R.out 6
        simp [Mo8.cells] at c3 c4 c5 c6
        by_cases b24 : H = 24
        · by_cases bm : M = 0
          · by_cases bs : S = 0
            ·
              go_wp2_with fail
              go_ret2
              exact ⟨f, HFE.out, fun _ => rfl, fun h => absurd ⟨b24, .inr (.inr BF.out)⟩ h, R.out, B.out⟩
            · have bsb : (S != 0) = true := bne_iff_ne.2 bs
              go_wp2_with fail
              go_ret2
              exact ⟨f, HFE.out, fun _ => rfl, fun h => absurd ⟨b24, .inr (.inl bs)⟩ h, R.out, B.out⟩
          · have bmb : (M != 0) = true := bne_iff_ne.2 bm
            go_wp2_with fail
            go_ret2
            exact ⟨f, HFE.out, fun _ => rfl, fun h => absurd ⟨b24, .inl bm⟩ h, R.out, B.out⟩
        · have b24b : (H == 24) = false := beq_false_of_ne b24
          have B24 := Lib.hid b24
          clear b24
          by_cases g1 : 0 ≤ H
          · have g1b : decide (0 ≤ H) = true := decide_eq_true g1
            by_cases g2 : 0 ≤ M
            · have g2b : decide (0 ≤ M) = true := decide_eq_true g2
              go_upto_region 17 with fail
              clear c3 c4 c5 c6
              have qx := Lw.row R.out
              have x3 := fun x => (row_cell (qx x) 3)
              have x4 := fun x => (row_cell (qx x) 4)
              have x5 := fun x => (row_cell (qx x) 5)
              simp [Mo8.cells] at x3 x4 x5
              clear qx
              refine wp_region_lw (by kernel_rfl) (by kernel_rfl) ?_
              repeat (go_big_quiet_step (first | exact rfl))
              refine wpQuiet_nil ?_
              rintro ⟨w9, hb9⟩
              dsimp only
              have R9 := R.out.next hb9
              have B9 : Below g w w9 := B.out.trans (hb9.mono (Nat.le_of_lt R.out.lt))
              clear x3 x4 x5 hb9
              replace R := Lib.hid R9
              replace B := Lib.hid B9
              clear R9 B9
              go_wp2_with fail
              go_ret2
              exact ⟨f, HFE.out, fun h => absurd h (fun h => B24.out h.1), fun _ => by rw [g1b, g2b]; rfl, R.out, B.out⟩
            · have g2b : decide (0 ≤ M) = false := decide_eq_false g2
              clear g2
              go_upto_region 17 with fail
              clear c3 c4 c5 c6
              have qx := Lw.row R.out
              have x3 := fun x => (row_cell (qx x) 3)
              have x4 := fun x => (row_cell (qx x) 4)
              have x5 := fun x => (row_cell (qx x) 5)
              simp [Mo8.cells] at x3 x4 x5
              clear qx
              refine wp_region_lw (by kernel_rfl) (by kernel_rfl) ?_
              repeat (go_big_quiet_step (first | exact rfl))
              refine wpQuiet_nil ?_
              rintro ⟨w9, hb9⟩
              dsimp only
              have R9 := R.out.next hb9
              have B9 : Below g w w9 := B.out.trans (hb9.mono (Nat.le_of_lt R.out.lt))
              clear x3 x4 x5 hb9
              replace R := Lib.hid R9
              replace B := Lib.hid B9
              clear R9 B9
              go_wp2_with fail
              go_ret2
              exact ⟨f, HFE.out, fun h => absurd h (fun h => B24.out h.1), fun _ => by rw [g1b, g2b]; rfl, R.out, B.out⟩
          · have g1b : decide (0 ≤ H) = false := decide_eq_false g1
            clear g1
            go_upto_region 17 with fail
            clear c3 c4 c5 c6
            have qx := Lw.row R.out
            have x3 := fun x => (row_cell (qx x) 3)
            have x4 := fun x => (row_cell (qx x) 4)
            have x5 := fun x => (row_cell (qx x) 5)
            simp [Mo8.cells] at x3 x4 x5
            clear qx
            refine wp_region_lw (by kernel_rfl) (by kernel_rfl) ?_
            repeat (go_big_quiet_step (first | exact rfl))
            refine wpQuiet_nil ?_
            rintro ⟨w9, hb9⟩
            dsimp only
            have R9 := R.out.next hb9
            have B9 : Below g w w9 := B.out.trans (hb9.mono (Nat.le_of_lt R.out.lt))
            clear x3 x4 x5 hb9
            replace R := Lib.hid R9
            replace B := Lib.hid B9
            clear R9 B9
            go_wp2_with fail
            go_ret2
            exact ⟨f, HFE.out, fun h => absurd h (fun h => B24.out h.1), fun _ => by rw [g1b]; rfl, R.out, B.out⟩
end Go.Proofs.YtlhcejbimlilaaaGreatDoor
/- The document's time, whole. -/
namespace Go.Tk
open Go Go.RowKit
theorem btw0 {a b : UInt8} {u : List UInt8} {hi : Int} : btw (a :: b :: u) 0 hi = if dgB [a, b] = true ∧ tw8 (a :: b :: u) ≤ hi then tw8 (a :: b :: u) else -1 := by
  unfold btw
  cases d : dgB [a, b] with
  | false => rw [tw8_no d, if_pos (by omega), if_neg (by simp)]
  | true =>
    have := tw8_yes (u := u) d
    by_cases h : hi < tw8 (a :: b :: u)
    · rw [if_pos (.inr h), if_neg (by rintro ⟨_, h1⟩; omega)]
    · rw [if_neg (by omega), if_pos ⟨rfl, by omega⟩]
theorem rdT_len {l : List UInt8} (h : l.length < 8) : rdT l = none := by
  unfold rdT
  have : rdH l = none := by
    unfold rdH
    cases h1 : twoP l [58] with
    | none => rfl
    | some x =>
      obtain ⟨v, r1⟩ := x
      dsimp only
      cases h2 : twoP r1 [58] with
      | none => rfl
      | some y =>
        obtain ⟨v2, r2⟩ := y
        dsimp only
        cases h3 : twoP r2 [] with
        | none => rfl
        | some z =>
          exfalso
          obtain ⟨v3, r3⟩ := z
          obtain ⟨a, b, u, rfl, _, hp, _, rfl⟩ := twoP_some h1
          obtain ⟨q, rfl⟩ := pre_58 hp
          obtain ⟨a2, b2, u2, hq, _, hp2, _, hr2⟩ := twoP_some h2
          simp at hq
          subst hq
          obtain ⟨q2, rfl⟩ := pre_58 hp2
          obtain ⟨a3, b3, u3, hq3, _, _, _, hr3⟩ := twoP_some h3
          simp at hr2
          rw [← hr2, hq3] at h
          simp at h
          omega
  rw [this]
/-- A time of eight signs and more. -/
theorem rdT_eight {a b c d e f g h : UInt8} {T : List UInt8} : rdT (a :: b :: c :: d :: e :: f :: g :: h :: T) =
    if c = 58 ∧ f = 58 ∧ 0 ≤ btw (a :: b :: c :: d :: e :: f :: g :: h :: T) 0 24 ∧ 0 ≤ btw (d :: e :: f :: g :: h :: T) 0 59 ∧ 0 ≤ btw (g :: h :: T) 0 59 then
      (match rdF T with
        | none => none
        | some (p, z) => if btw (a :: b :: c :: d :: e :: f :: g :: h :: T) 0 24 = 24 ∧ (0 < btw (d :: e :: f :: g :: h :: T) 0 59 ∨ 0 < btw (g :: h :: T) 0 59 ∨ p ≠ []) then none
          else some (btw (a :: b :: c :: d :: e :: f :: g :: h :: T) 0 24 * 3600 + btw (d :: e :: f :: g :: h :: T) 0 59 * 60 + btw (g :: h :: T) 0 59, p, z))
    else none := by
  unfold rdT rdH
  rw [twoP_of]
  by_cases hc : c = 58
  · subst hc
    rw [pre_one 58 _, Bool.and_true]
    rw [@btw0 a b]
    cases d1 : dgB [a, b] with
    | false =>
      rw [if_neg (by simp), if_neg (by rintro ⟨_, _, h, _⟩; rw [if_neg (by simp)] at h; omega)]
    | true =>
      rw [if_pos rfl]
      dsimp only
      rw [show List.drop [(58 : UInt8)].length (58 :: d :: e :: f :: g :: h :: T) = d :: e :: f :: g :: h :: T from rfl, twoP_of]
      by_cases hf : f = 58
      · subst hf
        rw [pre_one 58 _, Bool.and_true]
        rw [@btw0 d e]
        cases d2 : dgB [d, e] with
        | false => rw [if_neg (by simp), if_neg (by rintro ⟨_, _, _, h, _⟩; rw [if_neg (by simp)] at h; omega)]
        | true =>
          rw [if_pos rfl]
          dsimp only
          rw [show List.drop [(58 : UInt8)].length (58 :: g :: h :: T) = g :: h :: T from rfl, twoP_of, pre_nil, Bool.and_true]
          rw [@btw0 g h]
          cases d3 : dgB [g, h] with
          | false => rw [if_neg (by simp), if_neg (by rintro ⟨_, _, _, _, h⟩; rw [if_neg (by simp)] at h; omega)]
          | true =>
            rw [if_pos rfl]
            dsimp only
            rw [show List.drop ([] : List UInt8).length T = T from rfl]
            have p1 := tw8_yes (u := 58 :: d :: e :: 58 :: g :: h :: T) d1
            have p2 := tw8_yes (u := 58 :: g :: h :: T) d2
            have p3 := tw8_yes (u := T) d3
            generalize tw8 (a :: b :: 58 :: d :: e :: 58 :: g :: h :: T) = x at *
            generalize tw8 (d :: e :: 58 :: g :: h :: T) = y at *
            generalize tw8 (g :: h :: T) = z at *
            by_cases hx : 24 < x
            · rw [if_pos (show 59 < y ∨ 59 < z ∨ 24 < x by omega), if_neg (by rintro ⟨_, _, h, _⟩; rw [if_neg (by rintro ⟨_, h⟩; omega)] at h; omega)]
            by_cases hy : 59 < y
            · rw [if_pos (show 59 < y ∨ 59 < z ∨ 24 < x by omega), if_neg (by rintro ⟨_, _, _, h, _⟩; rw [if_neg (by rintro ⟨_, h⟩; omega)] at h; omega)]
            by_cases hz : 59 < z
            · rw [if_pos (show 59 < y ∨ 59 < z ∨ 24 < x by omega), if_neg (by rintro ⟨_, _, _, _, h⟩; rw [if_neg (by rintro ⟨_, h⟩; omega)] at h; omega)]
            rw [if_neg (show ¬ (59 < y ∨ 59 < z ∨ 24 < x) by omega)]
            have e1 : (if true = true ∧ x ≤ 24 then x else -1) = x := if_pos ⟨rfl, by omega⟩
            have e2 : (if true = true ∧ y ≤ 59 then y else -1) = y := if_pos ⟨rfl, by omega⟩
            have e3 : (if true = true ∧ z ≤ 59 then z else -1) = z := if_pos ⟨rfl, by omega⟩
            rw [e1, e2, e3, if_pos ⟨rfl, rfl, p1, p2, p3⟩]
            rfl
      · rw [show Lib.hasPrefix (f :: g :: h :: T) [58] = false from pre_no _ hf, Bool.and_false, if_neg (by simp)]
        dsimp only
        rw [if_neg (fun h => hf h.2.1)]
  · rw [show Lib.hasPrefix (c :: d :: e :: f :: g :: h :: T) [58] = false from pre_no _ hc, Bool.and_false, if_neg (by simp)]
    dsimp only
    rw [if_neg (fun h => hc h.1)]
theorem btw_hi (l : List UInt8) (lo hi : Int) (h : -1 ≤ hi) : btw l lo hi ≤ hi ∧ -1 ≤ btw l lo hi := by
  have := tw8_rng l
  unfold btw
  split <;> omega
end Go.Tk
namespace Go.Proofs.YtlhcejbimlilaaaGreatDoor
open Go.RowKit Go.Tk
def TiPost (l : List UInt8) (g : Nat) (m : Mo8) (w : World) (e : Ending) (w' : World) : Prop :=
  ∃ (R f : ByteArray) (h mi s : Int), e = .returned (.tuple #[.string R, .bool (rdT l).isSome]) ∧ MoAt w' g { m with h := h, mi := mi, s := s, f := f } ∧ Below g w w' ∧
    ∀ x, rdT l = some x → x = (h * 3600 + mi * 60 + s, f.data.toList, R.data.toList) ∧ 0 ≤ h ∧ h ≤ 24 ∧ 0 ≤ mi ∧ mi ≤ 59 ∧ 0 ≤ s ∧ s ≤ 59 ∧ (h = 24 → mi = 0 ∧ s = 0 ∧ f.data.toList = [])
theorem ti_none {l : List UInt8} {g : Nat} {m : Mo8} {w w' : World} {e : Ending} (hn : rdT l = none) (h mi s : Int) (f : ByteArray) (h1 : e = .returned (.tuple #[.string ⟨#[]⟩, .bool false])) (h2 : MoAt w' g { m with h := h, mi := mi, s := s, f := f }) (h3 : Below g w w') : TiPost l g m w e w' :=
  ⟨⟨#[]⟩, f, h, mi, s, by rw [hn]; exact h1, h2, h3, fun x hx => by rw [hn] at hx; cases hx⟩
theorem ti_end {l : List UInt8} {T f : ByteArray} {H M S : Int} {g : Nat} {m : Mo8} {w w' : World} {e : Ending} (h : TiEnd T f H M S g m w e w') (bH : H ≤ 24 ∧ -1 ≤ H) (bM : M ≤ 59 ∧ -1 ≤ M) (bS : S ≤ 59 ∧ -1 ≤ S)
    (hr : rdT l = if 0 ≤ H ∧ 0 ≤ M ∧ 0 ≤ S then (if H = 24 ∧ (0 < M ∨ 0 < S ∨ f.data.toList ≠ []) then none else some (H * 3600 + M * 60 + S, f.data.toList, T.data.toList)) else none) : TiPost l g m w e w' := by
  obtain ⟨h1, h2, h3, h4⟩ := h
  by_cases hb : H = 24 ∧ (M ≠ 0 ∨ S ≠ 0 ∨ f.data.toList ≠ [])
  · refine ti_none ?_ H M S f (h1 hb) h3 h4
    rw [hr]
    by_cases ok : 0 ≤ H ∧ 0 ≤ M ∧ 0 ≤ S
    · rw [if_pos ok, if_pos]
      refine ⟨hb.1, ?_⟩
      rcases hb.2 with q | q | q
      · exact .inl (by omega)
      · exact .inr (.inl (by omega))
      · exact .inr (.inr q)
    · rw [if_neg ok]
  · have h5 := h2 hb
    by_cases ok : 0 ≤ H ∧ 0 ≤ M ∧ 0 ≤ S
    · have hs : rdT l = some (H * 3600 + M * 60 + S, f.data.toList, T.data.toList) := by
        rw [hr, if_pos ok, if_neg]
        rintro ⟨q1, q2⟩
        refine hb ⟨q1, ?_⟩
        rcases q2 with q | q | q
        · exact .inl (by omega)
        · exact .inr (.inl (by omega))
        · exact .inr (.inr q)
      refine ⟨T, f, H, M, S, ?_, h3, h4, fun x hx => ?_⟩
      · rw [hs, h5, decide_eq_true ok.1, decide_eq_true ok.2.1, decide_eq_true ok.2.2]; rfl
      · rw [hs] at hx
        refine ⟨(Option.some.inj hx).symm, ok.1, bH.1, ok.2.1, bM.1, ok.2.2, bS.1, fun h24 => ?_⟩
        refine ⟨?_, ?_, ?_⟩
        · by_cases q : M = 0; exact q; exact absurd ⟨h24, .inl q⟩ hb
        · by_cases q : S = 0; exact q; exact absurd ⟨h24, .inr (.inl q)⟩ hb
        · by_cases q : f.data.toList = []; exact q; exact absurd ⟨h24, .inr (.inr q)⟩ hb
    · have hn : rdT l = none := by rw [hr, if_neg ok]
      refine ⟨T, f, H, M, S, ?_, h3, h4, fun x hx => by rw [hn] at hx; cases hx⟩
      rw [hn, h5]
      have : (decide (0 ≤ H) && (decide (0 ≤ M) && decide (0 ≤ S))) = false := by
        cases hq : (decide (0 ≤ H) && (decide (0 ≤ M) && decide (0 ≤ S))) with
        | false => rfl
        | true =>
          simp only [Bool.and_eq_true, decide_eq_true_eq] at hq
          exact absurd hq ok
      rw [this]; rfl
/-- The document's time. -/
theorem rtime_calls (w : World) (g : Nat) (m : Mo8) (s : ByteArray) (hs : s.size ≤ 65536) (hf : m.f = ⟨#[]⟩) (hr : MoAt w g m) :
    Calls Tryz.prog 91 #[.pointer (some ⟨g, 0, none⟩), .string s] w (TiPost s.data.toList g m w) := by
  have hls : s.data.toList.length = s.size := (Lib.size_eq s).symm
  have t58 : (58 : UInt8).toNat = 58 := rfl
  have keep : ∀ {e w'}, (e = Ending.returned (.tuple #[.string ⟨#[]⟩, .bool false]) ∧ w = w') → rdT s.data.toList = none → TiPost s.data.toList g m w e w' := fun {e w'} h hN => by
    obtain ⟨h1, rfl⟩ := h
    exact ti_none hN m.h m.mi m.s m.f h1 hr (Below.refl _ _)
  by_cases h8 : s.size < 8
  · exact (ti_len w g m s (by omega) (by omega) hr).mono fun e w' h => keep h (rdT_len (by omega))
  obtain ⟨a, b, c, d, e5, f5, g5, h5, T0, hL⟩ : ∃ a b c d e f g h T, s.data.toList = a :: b :: c :: d :: e :: f :: g :: h :: T := by
    match h : s.data.toList, hls with
    | [], hl => simp at hl; omega
    | [_], hl => simp at hl; omega
    | [_, _], hl => simp at hl; omega
    | [_, _, _], hl => simp at hl; omega
    | [_, _, _, _], hl => simp at hl; omega
    | [_, _, _, _, _], hl => simp at hl; omega
    | [_, _, _, _, _, _], hl => simp at hl; omega
    | [_, _, _, _, _, _, _], hl => simp at hl; omega
    | a :: b :: c :: d :: e :: f :: g :: hh :: T, _ => exact ⟨a, b, c, d, e, f, g, hh, T, rfl⟩
  have l2 : 2 < s.size := by omega
  have l5 : 5 < s.size := by omega
  have e2 : s[2] = c := by rw [← ba_get s 2 l2]; simp [hL]
  have e5' : s[5] = f5 := by rw [← ba_get s 5 l5]; simp [hL]
  have hR := @rdT_eight a b c d e5 f5 g5 h5 T0
  rw [← hL] at hR
  by_cases q2 : (((s[2]).toNat : Nat) : Int) = 58
  · have hc : c = 58 := by rw [← e2]; exact UInt8.toNat.inj (by omega)
    by_cases q5 : (((s[5]).toNat : Nat) : Int) = 58
    · have hf5 : f5 = 58 := by rw [← e5']; exact UInt8.toNat.inj (by omega)
      obtain ⟨A3, hA3⟩ : ∃ P, s.extract 3 s.size = P := ⟨_, rfl⟩
      obtain ⟨A6, hA6⟩ : ∃ P, s.extract 6 s.size = P := ⟨_, rfl⟩
      obtain ⟨T, hT⟩ : ∃ P, s.extract 8 s.size = P := ⟨_, rfl⟩
      have hA3d : A3.data.toList = d :: e5 :: f5 :: g5 :: h5 :: T0 := by rw [← hA3, ex_drop, hL]; rfl
      have hA6d : A6.data.toList = g5 :: h5 :: T0 := by rw [← hA6, ex_drop, hL]; rfl
      have hTd : T.data.toList = T0 := by rw [← hT, ex_drop, hL]; rfl
      have hlen := congrArg List.length hL
      rw [hls] at hlen
      simp only [List.length_cons] at hlen
      have hA3s : A3.size ≤ 4000000000 := by rw [Lib.size_eq, hA3d]; simp only [List.length_cons]; omega
      have hA6s : A6.size ≤ 4000000000 := by rw [Lib.size_eq, hA6d]; simp only [List.length_cons]; omega
      have hTs : T.size = T0.length := by rw [Lib.size_eq, hTd]
      have bH := fun w => rbetween_calls s 0 24 w (by omega)
      have bM := fun w => rbetween_calls A3 0 59 w hA3s
      have bS := fun w => rbetween_calls A6 0 59 w hA6s
      rw [hA3d] at bM
      rw [hA6d] at bS
      have r1 := btw_hi s.data.toList 0 24 (by omega)
      have r2 := btw_hi (d :: e5 :: f5 :: g5 :: h5 :: T0) 0 59 (by omega)
      have r3 := btw_hi (g5 :: h5 :: T0) 0 59 (by omega)
      obtain ⟨H, hH⟩ : ∃ v, v = btw s.data.toList 0 24 := ⟨_, rfl⟩
      obtain ⟨M, hM⟩ : ∃ v, v = btw (d :: e5 :: f5 :: g5 :: h5 :: T0) 0 59 := ⟨_, rfl⟩
      obtain ⟨S, hS⟩ : ∃ v, v = btw (g5 :: h5 :: T0) 0 59 := ⟨_, rfl⟩
      rw [← hH] at bH r1 hR
      rw [← hM] at bM r2 hR
      rw [← hS] at bS r3 hR
      have hR2 : ∀ p z, rdF T0 = some (p, z) → rdT s.data.toList = if 0 ≤ H ∧ 0 ≤ M ∧ 0 ≤ S then (if H = 24 ∧ (0 < M ∨ 0 < S ∨ p ≠ []) then none else some (H * 3600 + M * 60 + S, p, z)) else none := fun p z hF => by
        rw [hR, hF]
        dsimp only
        by_cases ok : 0 ≤ H ∧ 0 ≤ M ∧ 0 ≤ S
        · rw [if_pos ⟨hc, hf5, ok⟩, if_pos ok]
        · rw [if_neg (fun h => ok h.2.2), if_neg ok]
      by_cases te : T0 = []
      · have teb : (T.toList == []) = true := by rw [Lib.toList_data, hTd, te]; rfl
        refine (ti_nd0 w g m s (by omega) l2 l5 (by omega) q2 q5 H M S A3 A6 T hA3 hA6 hT (by omega) bH bM bS hf teb hr).mono fun e w' h => ?_
        refine ti_end h r1 r2 r3 ?_
        rw [hTd]
        exact hR2 [] T0 (by rw [te]; rfl)
      · have teb : (T.toList == []) = false := by rw [Lib.toList_data, hTd]; exact beq_false_of_ne te
        have k0 : 0 < T.size := by rw [hTs]; exact List.length_pos_iff.2 te
        have hcs := ba_cons T k0
        have t46 : (46 : UInt8).toNat = 46 := rfl
        by_cases z0 : (((T[0]).toNat : Nat) : Int) = 46
        · have hz : T[0] = 46 := UInt8.toNat.inj (by omega)
          obtain ⟨T1, hT1⟩ : ∃ P, T.extract 1 T.size = P := ⟨_, rfl⟩
          have hT1d : T1.data.toList = T0.drop 1 := by rw [← hT1, ex_drop, hTd]
          have hT1s : T1.size = T.size - 1 := by rw [Lib.size_eq, hT1d, List.length_drop, hTs]
          have hT0 : T0 = 46 :: T1.data.toList := by rw [← hTd, hT1d, ← hTd]; rw [hz] at hcs; exact hcs
          have hrn := fun w => rrun_calls T1 w (by omega)
          have hnle := dgN_le8 T1.data.toList
          rw [← Lib.size_eq] at hnle
          have hF : rdF T0 = if dgN T1.data.toList = 0 then none else some (tr0 (T1.data.toList.take (dgN T1.data.toList)), T1.data.toList.drop (dgN T1.data.toList)) := by
            rw [hT0]
            unfold rdF
            rw [if_pos (pre_one 46 _)]
            rfl
          obtain ⟨n, hn⟩ : ∃ n, n = dgN T1.data.toList := ⟨_, rfl⟩
          rw [← hn] at hrn hnle hF
          by_cases n0 : n = 0
          · rw [n0] at hrn
            rw [if_pos n0] at hF
            have hN : rdT s.data.toList = none := by
              rw [hR, hF]
              split <;> rfl
            refine (ti_n0 w g m s (by omega) l2 l5 (by omega) q2 q5 H M S A3 A6 T hA3 hA6 hT (by omega) bH bM bS teb k0 z0 T1 hT1 hrn hr).mono fun e w' h => ?_
            exact ti_none hN H M S m.f h.1 h.2.1 h.2.2
          · rw [if_neg n0] at hF
            obtain ⟨F0, hF0⟩ : ∃ P, T.extract 1 (1 + n) = P := ⟨_, rfl⟩
            obtain ⟨T2, hT2⟩ : ∃ P, T.extract (1 + n) T.size = P := ⟨_, rfl⟩
            have hF0d : F0.data.toList = T1.data.toList.take n := by rw [← hF0, Lib.extract_eq, hTd, hT1d, show 1 + n - 1 = n from by omega]
            have hT2d : T2.data.toList = T1.data.toList.drop n := by rw [← hT2, ex_drop, hTd, hT1d, List.drop_drop]
            have hF0s : F0.size ≤ 65536 := by rw [Lib.size_eq, hF0d, List.length_take, ← Lib.size_eq]; omega
            have hT2s : T2.size ≤ 65536 := by rw [Lib.size_eq, hT2d, List.length_drop, ← Lib.size_eq]; omega
            refine (ti_dot w g m s (by omega) l2 l5 (by omega) q2 q5 H M S A3 A6 T hA3 hA6 hT (by omega) bH bM bS teb k0 z0 T1 hT1 n hrn (by omega) (by omega) F0 T2 hF0 hT2 (by omega) (by omega) hr).mono fun e w' h => ?_
            obtain ⟨f, hfd, hE⟩ := h
            refine ti_end hE r1 r2 r3 ?_
            rw [hfd, hF0d, hT2d]
            exact hR2 _ _ hF
        · have hz : T[0] ≠ 46 := fun e => z0 (by rw [e]; rfl)
          have hF : rdF T0 = some ([], T0) := by
            rw [← hTd, hcs]
            unfold rdF
            rw [pre_no _ hz, if_neg (by simp)]
          refine (ti_nd1 w g m s (by omega) l2 l5 (by omega) q2 q5 H M S A3 A6 T hA3 hA6 hT (by omega) bH bM bS hf teb k0 z0 hr).mono fun e w' h => ?_
          refine ti_end h r1 r2 r3 ?_
          rw [hTd]
          exact hR2 [] T0 hF
    · have hN : rdT s.data.toList = none := by rw [hR, if_neg (fun h => q5 (by rw [e5', h.2.1]; rfl))]
      exact (ti_c5 w g m s (by omega) l2 l5 (by omega) q2 q5 hr).mono fun e w' h => keep h hN
  · have hN : rdT s.data.toList = none := by rw [hR, if_neg (fun h => q2 (by rw [e2, h.1]; rfl))]
    exact (ti_c2 w g m s (by omega) l2 l5 (by omega) q2 hr).mono fun e w' h => keep h hN
end Go.Proofs.YtlhcejbimlilaaaGreatDoor
/- The program's moments held against each other. -/
namespace Go.Tk
open Go Go.RowKit
theorem bfM_bd (a b : Mt) : -1 ≤ bfM a b ∧ bfM a b ≤ 1 := by
  have h : ∀ l m, -1 ≤ cmB l m ∧ cmB l m ≤ 1 := by
    intro l
    induction l with
    | nil => intro m; cases m <;> simp [cmB]
    | cons x l ih => intro m; cases m with
      | nil => simp [cmB]
      | cons y m => simp only [cmB]; split
                    · omega
                    · split
                      · omega
                      · exact ih m
  unfold bfM
  split
  · omega
  · split
    · omega
    · exact h _ _
theorem box4 (w : World) (a b c d : Obj) : ((((w.alloc a).alloc b).alloc c).alloc d).drew.heap[w.heap.size + 1]? = some b ∧ ((((w.alloc a).alloc b).alloc c).alloc d).drew.heap[w.heap.size + 2]? = some c ∧ ((((w.alloc a).alloc b).alloc c).alloc d).drew.heap[w.heap.size + 3]? = some d ∧ Below w.heap.size w ((((w.alloc a).alloc b).alloc c).alloc d).drew := by
  refine ⟨?_, ?_, ?_, below_drewN ((((Below.refl _ _).alloc (Nat.le_refl _) _).alloc (by simp) _).alloc (by simp; omega) _ |>.alloc (by simp; omega) _) 1⟩
  · show ((((w.heap.push a).push b).push c).push d)[w.heap.size + 1]? = some _
    rw [Array.getElem?_push, if_neg (by first | (simp; done) | (simp; omega)), Array.getElem?_push, if_neg (by first | (simp; done) | (simp; omega)), Array.getElem?_push, if_pos (by first | (simp; done) | (simp; omega))]
  · show ((((w.heap.push a).push b).push c).push d)[w.heap.size + 2]? = some _
    rw [Array.getElem?_push, if_neg (by first | (simp; done) | (simp; omega)), Array.getElem?_push, if_pos (by first | (simp; done) | (simp; omega))]
  · show ((((w.heap.push a).push b).push c).push d)[w.heap.size + 3]? = some _
    rw [Array.getElem?_push, if_pos (by first | (simp; done) | (simp; omega))]
structure MtB (m : Mt) : Prop where
  s1 : -50000000000000000 ≤ m.sec
  s2 : m.sec ≤ 50000000000000000
  z1 : -100000 ≤ m.zone
  z2 : m.zone ≤ 100000
end Go.Tk
namespace Go.Proofs.YtlhcejbimlilaaaGreatDoor
open Go.RowKit Go.Tk
set_option maxHeartbeats 2000000 in
theorem mag_same (t u : Mt) (w : World) (ht : MtB t) (hu : MtB u) (hz : t.zoned = u.zoned) :
    Calls Tryz.prog 83 #[t.val, u.val] w fun e w' => e = .returned (.tuple #[.int .i64 (agM t u).1, .bool (agM t u).2]) ∧ Below w.heap.size w w' := by
  have ag : agM t u = (bfM (utM t) (utM u), true) := by unfold agM; rw [if_pos hz]
  rw [ag]
  dsimp only
  have h1 := fun w => utc_calls t w ⟨by have := ht.s1; omega, by have := ht.s2; omega⟩ ⟨ht.z1, ht.z2⟩
  have h2 := fun w => utc_calls u w ⟨by have := hu.s1; omega, by have := hu.s2; omega⟩ ⟨hu.z1, hu.z2⟩
  have h3 := fun w => before_calls (utM t) (utM u) w
  obtain ⟨T, hT⟩ : ∃ T, T = utM t := ⟨_, rfl⟩
  obtain ⟨U, hU⟩ : ∃ U, U = utM u := ⟨_, rfl⟩
  rw [← hT] at h1 h3 ⊢
  rw [← hU] at h2 h3 ⊢
  obtain ⟨B, hB⟩ : ∃ B, B = bfM T U := ⟨_, rfl⟩
  rw [← hB] at h3 ⊢
  clear hT hU hB ag
  obtain ⟨s1, p1, z1, n1, q1⟩ := t
  obtain ⟨s2, p2, z2, n2, q2⟩ := u
  obtain ⟨s3, p3, z3, n3, q3⟩ := T
  obtain ⟨s4, p4, z4, n4, q4⟩ := U
  unfold Mt.val at h1 h2 h3 ⊢
  dsimp only at h1 h2 h3 hz ⊢
  subst hz
  have H1 := Lib.hid h1
  have H2 := Lib.hid h2
  have H3 := Lib.hid h3
  clear h1 h2 h3 ht hu
  go_enter Tryz.func83, Tryz.ntmps83
  go_upto_region 2 with fail
  all_goals
    obtain ⟨r1, r2, hb⟩ := box2 w (.cells #[.int .i64 s1, .string ⟨p1.toArray⟩, .bool z1, .int .i64 n1, .string ⟨q1.toArray⟩] 76) (.cells #[.int .i64 s2, .string ⟨p2.toArray⟩, .bool z1, .int .i64 n2, .string ⟨q2.toArray⟩] 76)
    generalize World.alloc (World.alloc w _) _ = w2 at r1 r2 hb ⊢
    have q1 := Lw.row r1
    have q2 := Lw.row r2
    have x0 := fun x => (row_cell (q1 x) 0)
    have x1 := fun x => (row_cell (q1 x) 1)
    have x2 := fun x => (row_cell (q1 x) 2)
    have x3 := fun x => (row_cell (q1 x) 3)
    have x4 := fun x => (row_cell (q1 x) 4)
    have y0 := fun x => (row_cell (q2 x) 0)
    have y1 := fun x => (row_cell (q2 x) 1)
    have y2 := fun x => (row_cell (q2 x) 2)
    have y3 := fun x => (row_cell (q2 x) 3)
    have y4 := fun x => (row_cell (q2 x) 4)
    simp at x0 x1 x2 x3 x4 y0 y1 y2 y3 y4
    clear q1 q2 r1 r2
    refine wp_region_lw (by kernel_rfl) (by kernel_rfl) ?_
    repeat (go_big_quiet_step (first | exact rfl | (go_at_call 102; with_reducible exact lw_call (H1.out _)) | (go_at_call 102; with_reducible exact lw_call (H2.out _)) | (go_at_call 123; with_reducible exact lw_call (H3.out _))))
    refine wpQuiet_nil ?_
    rintro ⟨w3, hb3⟩
    dsimp only
    have hb4 := hb.trans (hb3.mono hb.size)
    clear x0 x1 x2 x3 x4 y0 y1 y2 y3 y4 hb hb3
    go_wp2_with fail
    go_ret2
    exact ⟨rfl, hb4⟩
set_option maxHeartbeats 2000000 in
theorem mag_mix (t u : Mt) (w : World) (ht : MtB t) (hu : MtB u) (hz1 : t.zoned = false) (hz2 : u.zoned = true) :
    Calls Tryz.prog 83 #[t.val, u.val] w fun e w' => e = .returned (.tuple #[.int .i64 (mxM t u).1, .bool (mxM t u).2]) ∧ Below w.heap.size w w' := by
  have h1 := fun w => utc_calls { t with zone := 840 } w ⟨by have := ht.s1; show _ ≤ t.sec; omega, by have := ht.s2; show t.sec ≤ _; omega⟩ ⟨by show -100000 ≤ (840 : Int); omega, by show (840 : Int) ≤ 100000; omega⟩
  have h5 := fun w => utc_calls { t with zone := -840 } w ⟨by have := ht.s1; show _ ≤ t.sec; omega, by have := ht.s2; show t.sec ≤ _; omega⟩ ⟨by show -100000 ≤ (-840 : Int); omega, by show (-840 : Int) ≤ 100000; omega⟩
  have h2 := fun w => utc_calls u w ⟨by have := hu.s1; omega, by have := hu.s2; omega⟩ ⟨hu.z1, hu.z2⟩
  have hmx : mxM t u = if bfM (utM { t with zone := 840 }) (utM u) = 0 ∨ bfM (utM { t with zone := 840 }) (utM u) ≠ bfM (utM { t with zone := -840 }) (utM u) then (0, false) else (bfM (utM { t with zone := 840 }) (utM u), true) := rfl
  have h3 := fun w => before_calls (utM { t with zone := 840 }) (utM u) w
  have h4 := fun w => before_calls (utM { t with zone := -840 }) (utM u) w
  have b1 := bfM_bd (utM { t with zone := 840 }) (utM u)
  have b2 := bfM_bd (utM { t with zone := -840 }) (utM u)
  obtain ⟨E, hE⟩ : ∃ T, T = utM { t with zone := 840 } := ⟨_, rfl⟩
  obtain ⟨W, hW⟩ : ∃ T, T = utM { t with zone := -840 } := ⟨_, rfl⟩
  obtain ⟨U, hU⟩ : ∃ U, U = utM u := ⟨_, rfl⟩
  rw [← hE] at h1 h3 b1 hmx
  rw [← hW] at h5 h4 b2 hmx
  rw [← hU] at h2 h3 h4 b1 b2 hmx
  obtain ⟨x, hx⟩ : ∃ B, B = bfM E U := ⟨_, rfl⟩
  obtain ⟨y, hy⟩ : ∃ B, B = bfM W U := ⟨_, rfl⟩
  rw [← hx] at h3 b1 hmx
  rw [← hy] at h4 b2 hmx
  rw [hmx]
  clear hE hW hU hx hy hmx
  obtain ⟨s1, p1, z1, n1, q1⟩ := t
  obtain ⟨s2, p2, z2, n2, q2⟩ := u
  obtain ⟨s3, p3, z3, n3, q3⟩ := E
  obtain ⟨s4, p4, z4, n4, q4⟩ := U
  obtain ⟨s5, p5, z5, n5, q5⟩ := W
  dsimp only at hz1 hz2
  subst hz1
  subst hz2
  unfold Mt.val at h1 h2 h3 h4 h5 ⊢
  dsimp only at h1 h2 h3 h4 h5 ⊢
  obtain ⟨R, hR⟩ : ∃ R : Int × Bool, R = if x = 0 ∨ x ≠ y then (0, false) else (x, true) := ⟨_, rfl⟩
  rw [← hR]
  have HR := Lib.hid hR
  have H1 := Lib.hid h1
  have H2 := Lib.hid h2
  have H3 := Lib.hid h3
  have H4 := Lib.hid h4
  have H5 := Lib.hid h5
  clear h1 h2 h3 h4 h5 ht hu hR
  go_enter Tryz.func83, Tryz.ntmps83
  go_upto_region 6 with fail
  go_region
  · obtain ⟨rb, rc, rd, hb⟩ := box4 w (.cells #[.int .i64 s1, .string ⟨p1.toArray⟩, .bool false, .int .i64 n1, .string ⟨q1.toArray⟩] 76) (.cells #[.int .i64 s2, .string ⟨p2.toArray⟩, .bool true, .int .i64 n2, .string ⟨q2.toArray⟩] 76) (.cells #[.int .i64 s1, .string ⟨p1.toArray⟩, .bool false, .int .i64 n1, .string ⟨q1.toArray⟩] 76) (.cells #[.int .i64 s1, .string ⟨p1.toArray⟩, .bool false, .int .i64 n1, .string ⟨q1.toArray⟩] 76)
    generalize World.drew _ = w4 at rb rc rd hb ⊢
    have c4 : ∀ i, w4.frozen? ⟨w.heap.size + 2, i, none⟩ = false := fun i => frozen_of_row _ _ _ _ _ rc
    have d4 : ∀ i, w4.frozen? ⟨w.heap.size + 3, i, none⟩ = false := fun i => frozen_of_row _ _ _ _ _ rd
    have c3 := row_cell rc 3
    have d3 := row_cell rd 3
    simp at c3 d3
    have se := set_row (i := 3) (v := .int .i64 840) rc rfl
    have so := set_row_ne (g := w.heap.size + 2) (i := 3) (v := .int .i64 840) rd (by omega)
    have sb := set_row_ne (g := w.heap.size + 2) (i := 3) (v := .int .i64 840) rb (by omega)
    have te := set_row_ne (g := w.heap.size + 3) (i := 3) (v := .int .i64 (-840)) se (by omega)
    have tw := set_row (i := 3) (v := .int .i64 (-840)) so rfl
    have tb := set_row_ne (g := w.heap.size + 3) (i := 3) (v := .int .i64 (-840)) sb (by omega)
    have hb2 := (hb.setCell (p := ⟨w.heap.size + 2, 3, none⟩) (by simp) (.int .i64 840)).setCell (p := ⟨w.heap.size + 3, 3, none⟩) (by simp) (.int .i64 (-840))
    rw [show w.heap.size + 1 + 1 + 1 = w.heap.size + 3 from rfl, show w.heap.size + 1 + 1 = w.heap.size + 2 from rfl]
    clear rb rc rd hb se so sb
    go_upto_region 8 with fail
    generalize World.setCell (World.setCell w4 _ _) _ _ = w5 at te tw tb hb2 ⊢
    clear c3 d3 c4 d4
    have q1 := Lw.row te
    have q2 := Lw.row tw
    have q3 := Lw.row tb
    have x0 := fun x => (row_cell (q1 x) 0)
    have x1 := fun x => (row_cell (q1 x) 1)
    have x2 := fun x => (row_cell (q1 x) 2)
    have x3 := fun x => (row_cell (q1 x) 3)
    have x4 := fun x => (row_cell (q1 x) 4)
    have y0 := fun x => (row_cell (q2 x) 0)
    have y1 := fun x => (row_cell (q2 x) 1)
    have y2 := fun x => (row_cell (q2 x) 2)
    have y3 := fun x => (row_cell (q2 x) 3)
    have y4 := fun x => (row_cell (q2 x) 4)
    have z0 := fun x => (row_cell (q3 x) 0)
    have z1 := fun x => (row_cell (q3 x) 1)
    have z2 := fun x => (row_cell (q3 x) 2)
    have z3 := fun x => (row_cell (q3 x) 3)
    have z4 := fun x => (row_cell (q3 x) 4)
    simp at x0 x1 x2 x3 x4 y0 y1 y2 y3 y4 z0 z1 z2 z3 z4
    clear q1 q2 q3 te tw tb
    refine wp_region_lw (by kernel_rfl) (by kernel_rfl) ?_
    repeat (go_big_quiet_step (first | exact rfl | (go_at_call 102; with_reducible exact lw_call (H1.out _)) | (go_at_call 102; with_reducible exact lw_call (H2.out _)) | (go_at_call 102; with_reducible exact lw_call (H5.out _)) | (go_at_call 123; with_reducible exact lw_call (H3.out _)) | (go_at_call 123; with_reducible exact lw_call (H4.out _))))
    refine wpQuiet_nil ?_
    rintro ⟨w6, hb6⟩
    dsimp only
    have hb7 := hb2.trans (hb6.mono hb2.size)
    clear x0 x1 x2 x3 x4 y0 y1 y2 y3 y4 z0 z1 z2 z3 z4 hb2 hb6
    have hr := HR.out
    by_cases g0 : x = 0
    · rw [if_pos (.inl g0)] at hr
      subst g0
      have HR2 := Lib.hid hr
      clear hr HR
      go_wp2_with fail
      go_ret2
      exact ⟨ret_p HR2.out, hb7⟩
    have b0 : (x == 0) = false := by rw [beq_eq_false_iff_ne]; exact g0
    by_cases g1 : x = y
    · rw [if_neg (by intro h; rcases h with h | h; exact g0 h; exact h g1)] at hr
      have bn : (x != y) = false := by rw [bne_eq_false_iff_eq]; exact g1
      have HR2 := Lib.hid hr
      clear hr HR g1 g0
      go_wp2_with fail
      go_ret2
      exact ⟨ret_p HR2.out, hb7⟩
    · rw [if_pos (.inr g1)] at hr
      have bn : (x != y) = true := by rw [bne_iff_ne]; exact g1
      have HR2 := Lib.hid hr
      clear hr HR g1 g0
      go_wp2_with fail
      go_ret2
      exact ⟨ret_p HR2.out, hb7⟩
  · obtain ⟨rb, rc, rd, hb⟩ := box4 w (.cells #[.int .i64 s1, .string ⟨p1.toArray⟩, .bool false, .int .i64 n1, .string ⟨q1.toArray⟩] 76) (.cells #[.int .i64 s2, .string ⟨p2.toArray⟩, .bool true, .int .i64 n2, .string ⟨q2.toArray⟩] 76) (.cells #[.int .i64 s1, .string ⟨p1.toArray⟩, .bool false, .int .i64 n1, .string ⟨q1.toArray⟩] 76) (.cells #[.int .i64 s1, .string ⟨p1.toArray⟩, .bool false, .int .i64 n1, .string ⟨q1.toArray⟩] 76)
    generalize World.drew _ = w4 at rb rc rd hb ⊢
    have c4 : ∀ i, w4.frozen? ⟨w.heap.size + 2, i, none⟩ = false := fun i => frozen_of_row _ _ _ _ _ rc
    have d4 : ∀ i, w4.frozen? ⟨w.heap.size + 3, i, none⟩ = false := fun i => frozen_of_row _ _ _ _ _ rd
    have c3 := row_cell rc 3
    have d3 := row_cell rd 3
    simp at c3 d3
    have se := set_row (i := 3) (v := .int .i64 840) rd rfl
    have so := set_row_ne (g := w.heap.size + 3) (i := 3) (v := .int .i64 840) rc (by omega)
    have sb := set_row_ne (g := w.heap.size + 3) (i := 3) (v := .int .i64 840) rb (by omega)
    have te := set_row_ne (g := w.heap.size + 2) (i := 3) (v := .int .i64 (-840)) se (by omega)
    have tw := set_row (i := 3) (v := .int .i64 (-840)) so rfl
    have tb := set_row_ne (g := w.heap.size + 2) (i := 3) (v := .int .i64 (-840)) sb (by omega)
    have hb2 := (hb.setCell (p := ⟨w.heap.size + 3, 3, none⟩) (by simp) (.int .i64 840)).setCell (p := ⟨w.heap.size + 2, 3, none⟩) (by simp) (.int .i64 (-840))
    rw [show w.heap.size + 1 + 1 + 1 = w.heap.size + 3 from rfl, show w.heap.size + 1 + 1 = w.heap.size + 2 from rfl]
    clear rb rc rd hb se so sb
    go_upto_region 8 with fail
    generalize World.setCell (World.setCell w4 _ _) _ _ = w5 at te tw tb hb2 ⊢
    clear c3 d3 c4 d4
    have q1 := Lw.row te
    have q2 := Lw.row tw
    have q3 := Lw.row tb
    have x0 := fun x => (row_cell (q1 x) 0)
    have x1 := fun x => (row_cell (q1 x) 1)
    have x2 := fun x => (row_cell (q1 x) 2)
    have x3 := fun x => (row_cell (q1 x) 3)
    have x4 := fun x => (row_cell (q1 x) 4)
    have y0 := fun x => (row_cell (q2 x) 0)
    have y1 := fun x => (row_cell (q2 x) 1)
    have y2 := fun x => (row_cell (q2 x) 2)
    have y3 := fun x => (row_cell (q2 x) 3)
    have y4 := fun x => (row_cell (q2 x) 4)
    have z0 := fun x => (row_cell (q3 x) 0)
    have z1 := fun x => (row_cell (q3 x) 1)
    have z2 := fun x => (row_cell (q3 x) 2)
    have z3 := fun x => (row_cell (q3 x) 3)
    have z4 := fun x => (row_cell (q3 x) 4)
    simp at x0 x1 x2 x3 x4 y0 y1 y2 y3 y4 z0 z1 z2 z3 z4
    clear q1 q2 q3 te tw tb
    refine wp_region_lw (by kernel_rfl) (by kernel_rfl) ?_
    repeat (go_big_quiet_step (first | exact rfl | (go_at_call 102; with_reducible exact lw_call (H1.out _)) | (go_at_call 102; with_reducible exact lw_call (H2.out _)) | (go_at_call 102; with_reducible exact lw_call (H5.out _)) | (go_at_call 123; with_reducible exact lw_call (H3.out _)) | (go_at_call 123; with_reducible exact lw_call (H4.out _))))
    refine wpQuiet_nil ?_
    rintro ⟨w6, hb6⟩
    dsimp only
    have hb7 := hb2.trans (hb6.mono hb2.size)
    clear x0 x1 x2 x3 x4 y0 y1 y2 y3 y4 z0 z1 z2 z3 z4 hb2 hb6
    have hr := HR.out
    by_cases g0 : x = 0
    · rw [if_pos (.inl g0)] at hr
      subst g0
      have HR2 := Lib.hid hr
      clear hr HR
      go_wp2_with fail
      go_ret2
      exact ⟨ret_p HR2.out, hb7⟩
    have b0 : (x == 0) = false := by rw [beq_eq_false_iff_ne]; exact g0
    by_cases g1 : x = y
    · rw [if_neg (by intro h; rcases h with h | h; exact g0 h; exact h g1)] at hr
      have bn : (x != y) = false := by rw [bne_eq_false_iff_eq]; exact g1
      have HR2 := Lib.hid hr
      clear hr HR g1 g0
      go_wp2_with fail
      go_ret2
      exact ⟨ret_p HR2.out, hb7⟩
    · rw [if_pos (.inr g1)] at hr
      have bn : (x != y) = true := by rw [bne_iff_ne]; exact g1
      have HR2 := Lib.hid hr
      clear hr HR g1 g0
      go_wp2_with fail
      go_ret2
      exact ⟨ret_p HR2.out, hb7⟩
set_option maxHeartbeats 2000000 in
theorem mag_calls (t u : Mt) (w : World) (ht : MtB t) (hu : MtB u) :
    Calls Tryz.prog 83 #[t.val, u.val] w fun e w' => e = .returned (.tuple #[.int .i64 (agM t u).1, .bool (agM t u).2]) ∧ Below w.heap.size w w' := by
  by_cases hz : t.zoned = u.zoned
  · exact mag_same t u w ht hu hz
  · cases h1 : t.zoned with
    | false =>
      have h2 : u.zoned = true := by cases h : u.zoned; exact absurd (h1.trans h.symm) hz; rfl
      have ag : agM t u = mxM t u := by unfold agM; rw [if_neg hz, if_neg (by rw [h1]; simp)]
      rw [ag]
      exact mag_mix t u w ht hu h1 h2
    | true =>
      have h2 : u.zoned = false := by cases h : u.zoned; rfl; exact absurd (h1.trans h.symm) hz
      have ag : agM t u = (-(mxM u t).1, (mxM u t).2) := by unfold agM; rw [if_neg hz, if_pos h1]
      rw [ag]
      have hm := fun w => mag_mix u t w hu ht h2 h1
      have hb : -1 ≤ (mxM u t).1 ∧ (mxM u t).1 ≤ 1 := by
        unfold mxM
        split
        · omega
        · exact bfM_bd _ _
      obtain ⟨x, hx⟩ : ∃ x, x = (mxM u t).1 := ⟨_, rfl⟩
      obtain ⟨y, hy⟩ : ∃ x, x = (mxM u t).2 := ⟨_, rfl⟩
      rw [← hx, ← hy] at hm
      rw [← hx] at hb
      dsimp only
      rw [← hx, ← hy]
      clear ag hx hy ht hu
      obtain ⟨s1, p1, z1, n1, q1⟩ := t
      obtain ⟨s2, p2, z2, n2, q2⟩ := u
      dsimp only at h1 h2
      subst h1
      subst h2
      unfold Mt.val at hm ⊢
      dsimp only at hm ⊢
      obtain ⟨hb1, hb2⟩ := hb
      have HM := Lib.hid hm
      clear hm hz
      go_enter Tryz.func83, Tryz.ntmps83
      go_wp2_with (go_at_call 83; (with_reducible refine (HM.out _).mono ?_); rintro e w3 ⟨rfl, hb3⟩)
      go_ret2
      exact ⟨rfl, (((Below.refl _ _).alloc (Nat.le_refl _) _).alloc (by simp) _).trans (hb3.mono (by simp; omega))⟩
end Go.Proofs.YtlhcejbimlilaaaGreatDoor
