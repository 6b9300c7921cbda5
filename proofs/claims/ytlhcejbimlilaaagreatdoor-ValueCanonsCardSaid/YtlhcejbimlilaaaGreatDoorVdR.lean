/- The document's time: walks (written by gen_vdr.py). -/
import Derived.Test.YtlhcejbimlilaaaGreatDoorVdQ
set_option linter.unusedVariables false
set_option linter.unusedSimpArgs false
namespace Go.Proofs.YtlhcejbimlilaaaGreatDoor
open Go.RowKit Go.Tk
/-- How a time ends. -/
def TiEnd (T f : ByteArray) (H M S : Int) (g : Nat) (m : Mo8) (w : World) (e : Ending) (w' : World) : Prop :=
  (H = 24 ∧ (M ≠ 0 ∨ S ≠ 0 ∨ f.data.toList ≠ []) → e = .returned (.tuple #[.string ⟨#[]⟩, .bool false])) ∧
  (¬ (H = 24 ∧ (M ≠ 0 ∨ S ≠ 0 ∨ f.data.toList ≠ [])) → e = .returned (.tuple #[.string T, .bool (decide (0 ≤ H) && (decide (0 ≤ M) && decide (0 ≤ S)))])) ∧
  MoAt w' g { m with h := H, mi := M, s := S, f := f } ∧ Below g w w'
def fLen : Option Value → Nat
  | some (.string f) => f.size
  | _ => 0
set_option maxRecDepth 100000 in
set_option maxHeartbeats 8000000 in
theorem ti_len (w : World) (g : Nat) (m : Mo8) (s : ByteArray) (hs : s.size ≤ 4000000000) (hl : (s.size : Int) < 8) (hr : MoAt w g m) :
    Calls Tryz.prog 91 #[.pointer (some ⟨g, 0, none⟩), .string s] w fun e w' => e = .returned (.tuple #[.string ⟨#[]⟩, .bool false]) ∧ w = w' := by
  clear hr
  go_enter Tryz.func91, Tryz.ntmps91
  go_wp2_with fail
  go_ret2
  exact ⟨rfl, rfl⟩
set_option maxRecDepth 100000 in
set_option maxHeartbeats 8000000 in
theorem ti_c2 (w : World) (g : Nat) (m : Mo8) (s : ByteArray) (hs : s.size ≤ 4000000000) (l2 : 2 < s.size) (l5 : 5 < s.size) (hl : 8 ≤ (s.size : Int)) (q2 : (((s[2]).toNat : Nat) : Int) ≠ 58) (hr : MoAt w g m) :
    Calls Tryz.prog 91 #[.pointer (some ⟨g, 0, none⟩), .string s] w fun e w' => e = .returned (.tuple #[.string ⟨#[]⟩, .bool false]) ∧ w = w' := by
  clear hr
  have q2b : ((((s[2]).toNat : Nat) : Int) != 58) = true := bne_iff_ne.2 q2
  go_enter Tryz.func91, Tryz.ntmps91
  go_wp2_with fail
  go_ret2
  exact ⟨rfl, rfl⟩
set_option maxRecDepth 100000 in
set_option maxHeartbeats 8000000 in
theorem ti_c5 (w : World) (g : Nat) (m : Mo8) (s : ByteArray) (hs : s.size ≤ 4000000000) (l2 : 2 < s.size) (l5 : 5 < s.size) (hl : 8 ≤ (s.size : Int)) (q2 : (((s[2]).toNat : Nat) : Int) = 58) (q5 : (((s[5]).toNat : Nat) : Int) ≠ 58) (hr : MoAt w g m) :
    Calls Tryz.prog 91 #[.pointer (some ⟨g, 0, none⟩), .string s] w fun e w' => e = .returned (.tuple #[.string ⟨#[]⟩, .bool false]) ∧ w = w' := by
  clear hr
  have q5b : ((((s[5]).toNat : Nat) : Int) != 58) = true := bne_iff_ne.2 q5
  go_enter Tryz.func91, Tryz.ntmps91
  go_wp2_with fail
  go_ret2
  exact ⟨rfl, rfl⟩
set_option maxRecDepth 100000 in
set_option maxHeartbeats 8000000 in
theorem ti_nd0 (w : World) (g : Nat) (m : Mo8) (s : ByteArray) (hs : s.size ≤ 4000000000) (l2 : 2 < s.size) (l5 : 5 < s.size) (hl : 8 ≤ (s.size : Int)) (q2 : (((s[2]).toNat : Nat) : Int) = 58) (q5 : (((s[5]).toNat : Nat) : Int) = 58) (H M S : Int) (A3 A6 T : ByteArray) (hA3 : s.extract 3 s.size = A3) (hA6 : s.extract 6 s.size = A6) (hT : s.extract 8 s.size = T) (hTs : T.size ≤ 4000000000) (bH : ∀ w, Calls Tryz.prog 130 #[.string s, .int .i64 0, .int .i64 24] w fun e w' => e = .returned (.int .i64 H) ∧ Below w.heap.size w w') (bM : ∀ w, Calls Tryz.prog 130 #[.string A3, .int .i64 0, .int .i64 59] w fun e w' => e = .returned (.int .i64 M) ∧ Below w.heap.size w w') (bS : ∀ w, Calls Tryz.prog 130 #[.string A6, .int .i64 0, .int .i64 59] w fun e w' => e = .returned (.int .i64 S) ∧ Below w.heap.size w w') (hf : m.f = ⟨#[]⟩) (te : (T.toList == []) = true) (hr : MoAt w g m) :
    Calls Tryz.prog 91 #[.pointer (some ⟨g, 0, none⟩), .string s] w fun e w' => TiEnd T ⟨#[]⟩ H M S g m w e w' := by
  have BH := Lib.hid bH
  have BM := Lib.hid bM
  have BS := Lib.hid bS
  have R := Lib.hid hr
  have B := Lib.hid (Below.refl g w)
  clear bH bM bS hr
  go_enter Tryz.func91, Tryz.ntmps91
  go_upto_region 3 with fail
  have ci := row_cell R.out 3
  have fz := R.out.froz
  simp [Mo8.cells] at ci
  go_upto_region 4 with (go_at_call 130; (with_reducible refine (BH.out _).mono ?_); rintro e' wx ⟨rfl, hbx⟩; (have Rx := R.out.next hbx); (have ci' := row_cell Rx 3); (have fz' := Rx.froz); (simp [Mo8.cells] at ci'))
  have Bx : Below g w wx := B.out.trans (hbx.mono (Nat.le_of_lt R.out.lt))
  have Ry : MoAt (wx.setCell ⟨g, 3, none⟩ (.int .i64 H)) g { m with h := H } := Rx.set 3 _ rfl
  have By : Below g w (wx.setCell ⟨g, 3, none⟩ (.int .i64 H)) := bel_set Bx 3 _
  generalize World.setCell wx _ _ = w3 at Ry By ⊢
  clear ci fz ci' fz' Rx Bx hbx
  replace R := Lib.hid Ry
  replace B := Lib.hid By
  clear Ry By
  have ci := row_cell R.out 4
  have fz := R.out.froz
  simp [Mo8.cells] at ci
  go_upto_region 5 with (go_at_call 130; (with_reducible refine (BM.out _).mono ?_); rintro e' wx ⟨rfl, hbx⟩; (have Rx := R.out.next hbx); (have ci' := row_cell Rx 4); (have fz' := Rx.froz); (simp [Mo8.cells] at ci'))
  have Bx : Below g w wx := B.out.trans (hbx.mono (Nat.le_of_lt R.out.lt))
  have Ry : MoAt (wx.setCell ⟨g, 4, none⟩ (.int .i64 M)) g { m with h := H, mi := M } := Rx.set 4 _ rfl
  have By : Below g w (wx.setCell ⟨g, 4, none⟩ (.int .i64 M)) := bel_set Bx 4 _
  generalize World.setCell wx _ _ = w4 at Ry By ⊢
  clear ci fz ci' fz' Rx Bx hbx
  replace R := Lib.hid Ry
  replace B := Lib.hid By
  clear Ry By
  have ci := row_cell R.out 5
  have fz := R.out.froz
  simp [Mo8.cells] at ci
  go_upto_region 6 with (go_at_call 130; (with_reducible refine (BS.out _).mono ?_); rintro e' wx ⟨rfl, hbx⟩; (have Rx := R.out.next hbx); (have ci' := row_cell Rx 5); (have fz' := Rx.froz); (simp [Mo8.cells] at ci'))
  have Bx : Below g w wx := B.out.trans (hbx.mono (Nat.le_of_lt R.out.lt))
  have Ry : MoAt (wx.setCell ⟨g, 5, none⟩ (.int .i64 S)) g { m with h := H, mi := M, s := S } := Rx.set 5 _ rfl
  have By : Below g w (wx.setCell ⟨g, 5, none⟩ (.int .i64 S)) := bel_set Bx 5 _
  generalize World.setCell wx _ _ = w5 at Ry By ⊢
  clear ci fz ci' fz' Rx Bx hbx
  replace R := Lib.hid Ry
  replace B := Lib.hid By
  clear Ry By
  go_upto_region 7 with fail
  have hm5 : ({ m with h := H, mi := M, s := S } : Mo8) = { m with h := H, mi := M, s := S, f := ⟨#[]⟩ } := by rw [← hf]
  rw [hm5] at R
  clear hm5 hf
  go_upto_region 15 with fail
  have c3 := row_cell R.out 3
  have c4 := row_cell R.out 4
  have c5 := row_cell R.out 5
  have c6 := row_cell R.out 6
  simp [Mo8.cells] at c3 c4 c5 c6
  by_cases b24 : H = 24
  · by_cases bm : M = 0
    · by_cases bs : S = 0
      ·
        go_upto_region 17 with fail
        clear c3 c4 c5 c6
        have qx := Lw.row R.out
        have x3 := fun x => (row_cell (qx x) 3)
        have x4 := fun x => (row_cell (qx x) 4)
        have x5 := fun x => (row_cell (qx x) 5)
        simp [Mo8.cells] at x3 x4 x5
        clear qx
        refine wp_region_lw (by kernel_rfl) (by kernel_rfl) ?_
        repeat (go_big_quiet_step (first | exact rfl))
        refine wpQuiet_nil ?_
        rintro ⟨w9, hb9⟩
        dsimp only
        have R9 := R.out.next hb9
        have B9 : Below g w w9 := B.out.trans (hb9.mono (Nat.le_of_lt R.out.lt))
        clear x3 x4 x5 hb9
        replace R := Lib.hid R9
        replace B := Lib.hid B9
        clear R9 B9
        go_wp2_with fail
        go_ret2
        exact ⟨fun h => absurd h (by rintro ⟨_, h | h | h⟩; exact h bm; exact h bs; exact h rfl), fun _ => by rw [b24, bm, bs]; rfl, R.out, B.out⟩
      · have bsb : (S != 0) = true := bne_iff_ne.2 bs
        go_wp2_with fail
        go_ret2
        exact ⟨fun _ => rfl, fun h => absurd ⟨b24, .inr (.inl bs)⟩ h, R.out, B.out⟩
    · have bmb : (M != 0) = true := bne_iff_ne.2 bm
      go_wp2_with fail
      go_ret2
      exact ⟨fun _ => rfl, fun h => absurd ⟨b24, .inl bm⟩ h, R.out, B.out⟩
  · have b24b : (H == 24) = false := beq_false_of_ne b24
    have B24 := Lib.hid b24
    clear b24
    by_cases g1 : 0 ≤ H
    · have g1b : decide (0 ≤ H) = true := decide_eq_true g1
      by_cases g2 : 0 ≤ M
      · have g2b : decide (0 ≤ M) = true := decide_eq_true g2
        go_upto_region 17 with fail
        clear c3 c4 c5 c6
        have qx := Lw.row R.out
        have x3 := fun x => (row_cell (qx x) 3)
        have x4 := fun x => (row_cell (qx x) 4)
        have x5 := fun x => (row_cell (qx x) 5)
        simp [Mo8.cells] at x3 x4 x5
        clear qx
        refine wp_region_lw (by kernel_rfl) (by kernel_rfl) ?_
        repeat (go_big_quiet_step (first | exact rfl))
        refine wpQuiet_nil ?_
        rintro ⟨w9, hb9⟩
        dsimp only
        have R9 := R.out.next hb9
        have B9 : Below g w w9 := B.out.trans (hb9.mono (Nat.le_of_lt R.out.lt))
        clear x3 x4 x5 hb9
        replace R := Lib.hid R9
        replace B := Lib.hid B9
        clear R9 B9
        go_wp2_with fail
        go_ret2
        exact ⟨fun h => absurd h (fun h => B24.out h.1), fun _ => by rw [g1b, g2b]; rfl, R.out, B.out⟩
      · have g2b : decide (0 ≤ M) = false := decide_eq_false g2
        clear g2
        go_upto_region 17 with fail
        clear c3 c4 c5 c6
        have qx := Lw.row R.out
        have x3 := fun x => (row_cell (qx x) 3)
        have x4 := fun x => (row_cell (qx x) 4)
        have x5 := fun x => (row_cell (qx x) 5)
        simp [Mo8.cells] at x3 x4 x5
        clear qx
        refine wp_region_lw (by kernel_rfl) (by kernel_rfl) ?_
        repeat (go_big_quiet_step (first | exact rfl))
        refine wpQuiet_nil ?_
        rintro ⟨w9, hb9⟩
        dsimp only
        have R9 := R.out.next hb9
        have B9 : Below g w w9 := B.out.trans (hb9.mono (Nat.le_of_lt R.out.lt))
        clear x3 x4 x5 hb9
        replace R := Lib.hid R9
        replace B := Lib.hid B9
        clear R9 B9
        go_wp2_with fail
        go_ret2
        exact ⟨fun h => absurd h (fun h => B24.out h.1), fun _ => by rw [g1b, g2b]; rfl, R.out, B.out⟩
    · have g1b : decide (0 ≤ H) = false := decide_eq_false g1
      clear g1
      go_upto_region 17 with fail
      clear c3 c4 c5 c6
      have qx := Lw.row R.out
      have x3 := fun x => (row_cell (qx x) 3)
      have x4 := fun x => (row_cell (qx x) 4)
      have x5 := fun x => (row_cell (qx x) 5)
      simp [Mo8.cells] at x3 x4 x5
      clear qx
      refine wp_region_lw (by kernel_rfl) (by kernel_rfl) ?_
      repeat (go_big_quiet_step (first | exact rfl))
      refine wpQuiet_nil ?_
      rintro ⟨w9, hb9⟩
      dsimp only
      have R9 := R.out.next hb9
      have B9 : Below g w w9 := B.out.trans (hb9.mono (Nat.le_of_lt R.out.lt))
      clear x3 x4 x5 hb9
      replace R := Lib.hid R9
      replace B := Lib.hid B9
      clear R9 B9
      go_wp2_with fail
      go_ret2
      exact ⟨fun h => absurd h (fun h => B24.out h.1), fun _ => by rw [g1b]; rfl, R.out, B.out⟩
set_option maxRecDepth 100000 in
set_option maxHeartbeats 8000000 in
theorem ti_nd1 (w : World) (g : Nat) (m : Mo8) (s : ByteArray) (hs : s.size ≤ 4000000000) (l2 : 2 < s.size) (l5 : 5 < s.size) (hl : 8 ≤ (s.size : Int)) (q2 : (((s[2]).toNat : Nat) : Int) = 58) (q5 : (((s[5]).toNat : Nat) : Int) = 58) (H M S : Int) (A3 A6 T : ByteArray) (hA3 : s.extract 3 s.size = A3) (hA6 : s.extract 6 s.size = A6) (hT : s.extract 8 s.size = T) (hTs : T.size ≤ 4000000000) (bH : ∀ w, Calls Tryz.prog 130 #[.string s, .int .i64 0, .int .i64 24] w fun e w' => e = .returned (.int .i64 H) ∧ Below w.heap.size w w') (bM : ∀ w, Calls Tryz.prog 130 #[.string A3, .int .i64 0, .int .i64 59] w fun e w' => e = .returned (.int .i64 M) ∧ Below w.heap.size w w') (bS : ∀ w, Calls Tryz.prog 130 #[.string A6, .int .i64 0, .int .i64 59] w fun e w' => e = .returned (.int .i64 S) ∧ Below w.heap.size w w') (hf : m.f = ⟨#[]⟩) (te : (T.toList == []) = false) (k0 : 0 < T.size) (z0 : (((T[0]).toNat : Nat) : Int) ≠ 46) (hr : MoAt w g m) :
    Calls Tryz.prog 91 #[.pointer (some ⟨g, 0, none⟩), .string s] w fun e w' => TiEnd T ⟨#[]⟩ H M S g m w e w' := by
  have z0b : ((((T[0]).toNat : Nat) : Int) == 46) = false := beq_false_of_ne z0
  have BH := Lib.hid bH
  have BM := Lib.hid bM
  have BS := Lib.hid bS
  have R := Lib.hid hr
  have B := Lib.hid (Below.refl g w)
  clear bH bM bS hr
  go_enter Tryz.func91, Tryz.ntmps91
  go_upto_region 3 with fail
  have ci := row_cell R.out 3
  have fz := R.out.froz
  simp [Mo8.cells] at ci
  go_upto_region 4 with (go_at_call 130; (with_reducible refine (BH.out _).mono ?_); rintro e' wx ⟨rfl, hbx⟩; (have Rx := R.out.next hbx); (have ci' := row_cell Rx 3); (have fz' := Rx.froz); (simp [Mo8.cells] at ci'))
  have Bx : Below g w wx := B.out.trans (hbx.mono (Nat.le_of_lt R.out.lt))
  have Ry : MoAt (wx.setCell ⟨g, 3, none⟩ (.int .i64 H)) g { m with h := H } := Rx.set 3 _ rfl
  have By : Below g w (wx.setCell ⟨g, 3, none⟩ (.int .i64 H)) := bel_set Bx 3 _
  generalize World.setCell wx _ _ = w3 at Ry By ⊢
  clear ci fz ci' fz' Rx Bx hbx
  replace R := Lib.hid Ry
  replace B := Lib.hid By
  clear Ry By
  have ci := row_cell R.out 4
  have fz := R.out.froz
  simp [Mo8.cells] at ci
  go_upto_region 5 with (go_at_call 130; (with_reducible refine (BM.out _).mono ?_); rintro e' wx ⟨rfl, hbx⟩; (have Rx := R.out.next hbx); (have ci' := row_cell Rx 4); (have fz' := Rx.froz); (simp [Mo8.cells] at ci'))
  have Bx : Below g w wx := B.out.trans (hbx.mono (Nat.le_of_lt R.out.lt))
  have Ry : MoAt (wx.setCell ⟨g, 4, none⟩ (.int .i64 M)) g { m with h := H, mi := M } := Rx.set 4 _ rfl
  have By : Below g w (wx.setCell ⟨g, 4, none⟩ (.int .i64 M)) := bel_set Bx 4 _
  generalize World.setCell wx _ _ = w4 at Ry By ⊢
  clear ci fz ci' fz' Rx Bx hbx
  replace R := Lib.hid Ry
  replace B := Lib.hid By
  clear Ry By
  have ci := row_cell R.out 5
  have fz := R.out.froz
  simp [Mo8.cells] at ci
  go_upto_region 6 with (go_at_call 130; (with_reducible refine (BS.out _).mono ?_); rintro e' wx ⟨rfl, hbx⟩; (have Rx := R.out.next hbx); (have ci' := row_cell Rx 5); (have fz' := Rx.froz); (simp [Mo8.cells] at ci'))
  have Bx : Below g w wx := B.out.trans (hbx.mono (Nat.le_of_lt R.out.lt))
  have Ry : MoAt (wx.setCell ⟨g, 5, none⟩ (.int .i64 S)) g { m with h := H, mi := M, s := S } := Rx.set 5 _ rfl
  have By : Below g w (wx.setCell ⟨g, 5, none⟩ (.int .i64 S)) := bel_set Bx 5 _
  generalize World.setCell wx _ _ = w5 at Ry By ⊢
  clear ci fz ci' fz' Rx Bx hbx
  replace R := Lib.hid Ry
  replace B := Lib.hid By
  clear Ry By
  go_upto_region 7 with fail
  have hm5 : ({ m with h := H, mi := M, s := S } : Mo8) = { m with h := H, mi := M, s := S, f := ⟨#[]⟩ } := by rw [← hf]
  rw [hm5] at R
  clear hm5 hf
  go_upto_region 15 with fail
  have c3 := row_cell R.out 3
  have c4 := row_cell R.out 4
  have c5 := row_cell R.out 5
  have c6 := row_cell R.out 6
  simp [Mo8.cells] at c3 c4 c5 c6
  by_cases b24 : H = 24
  · by_cases bm : M = 0
    · by_cases bs : S = 0
      ·
        go_upto_region 17 with fail
        clear c3 c4 c5 c6
        have qx := Lw.row R.out
        have x3 := fun x => (row_cell (qx x) 3)
        have x4 := fun x => (row_cell (qx x) 4)
        have x5 := fun x => (row_cell (qx x) 5)
        simp [Mo8.cells] at x3 x4 x5
        clear qx
        refine wp_region_lw (by kernel_rfl) (by kernel_rfl) ?_
        repeat (go_big_quiet_step (first | exact rfl))
        refine wpQuiet_nil ?_
        rintro ⟨w9, hb9⟩
        dsimp only
        have R9 := R.out.next hb9
        have B9 : Below g w w9 := B.out.trans (hb9.mono (Nat.le_of_lt R.out.lt))
        clear x3 x4 x5 hb9
        replace R := Lib.hid R9
        replace B := Lib.hid B9
        clear R9 B9
        go_wp2_with fail
        go_ret2
        exact ⟨fun h => absurd h (by rintro ⟨_, h | h | h⟩; exact h bm; exact h bs; exact h rfl), fun _ => by rw [b24, bm, bs]; rfl, R.out, B.out⟩
      · have bsb : (S != 0) = true := bne_iff_ne.2 bs
        go_wp2_with fail
        go_ret2
        exact ⟨fun _ => rfl, fun h => absurd ⟨b24, .inr (.inl bs)⟩ h, R.out, B.out⟩
    · have bmb : (M != 0) = true := bne_iff_ne.2 bm
      go_wp2_with fail
      go_ret2
      exact ⟨fun _ => rfl, fun h => absurd ⟨b24, .inl bm⟩ h, R.out, B.out⟩
  · have b24b : (H == 24) = false := beq_false_of_ne b24
    have B24 := Lib.hid b24
    clear b24
    by_cases g1 : 0 ≤ H
    · have g1b : decide (0 ≤ H) = true := decide_eq_true g1
      by_cases g2 : 0 ≤ M
      · have g2b : decide (0 ≤ M) = true := decide_eq_true g2
        go_upto_region 17 with fail
        clear c3 c4 c5 c6
        have qx := Lw.row R.out
        have x3 := fun x => (row_cell (qx x) 3)
        have x4 := fun x => (row_cell (qx x) 4)
        have x5 := fun x => (row_cell (qx x) 5)
        simp [Mo8.cells] at x3 x4 x5
        clear qx
        refine wp_region_lw (by kernel_rfl) (by kernel_rfl) ?_
        repeat (go_big_quiet_step (first | exact rfl))
        refine wpQuiet_nil ?_
        rintro ⟨w9, hb9⟩
        dsimp only
        have R9 := R.out.next hb9
        have B9 : Below g w w9 := B.out.trans (hb9.mono (Nat.le_of_lt R.out.lt))
        clear x3 x4 x5 hb9
        replace R := Lib.hid R9
        replace B := Lib.hid B9
        clear R9 B9
        go_wp2_with fail
        go_ret2
        exact ⟨fun h => absurd h (fun h => B24.out h.1), fun _ => by rw [g1b, g2b]; rfl, R.out, B.out⟩
      · have g2b : decide (0 ≤ M) = false := decide_eq_false g2
        clear g2
        go_upto_region 17 with fail
        clear c3 c4 c5 c6
        have qx := Lw.row R.out
        have x3 := fun x => (row_cell (qx x) 3)
        have x4 := fun x => (row_cell (qx x) 4)
        have x5 := fun x => (row_cell (qx x) 5)
        simp [Mo8.cells] at x3 x4 x5
        clear qx
        refine wp_region_lw (by kernel_rfl) (by kernel_rfl) ?_
        repeat (go_big_quiet_step (first | exact rfl))
        refine wpQuiet_nil ?_
        rintro ⟨w9, hb9⟩
        dsimp only
        have R9 := R.out.next hb9
        have B9 : Below g w w9 := B.out.trans (hb9.mono (Nat.le_of_lt R.out.lt))
        clear x3 x4 x5 hb9
        replace R := Lib.hid R9
        replace B := Lib.hid B9
        clear R9 B9
        go_wp2_with fail
        go_ret2
        exact ⟨fun h => absurd h (fun h => B24.out h.1), fun _ => by rw [g1b, g2b]; rfl, R.out, B.out⟩
    · have g1b : decide (0 ≤ H) = false := decide_eq_false g1
      clear g1
      go_upto_region 17 with fail
      clear c3 c4 c5 c6
      have qx := Lw.row R.out
      have x3 := fun x => (row_cell (qx x) 3)
      have x4 := fun x => (row_cell (qx x) 4)
      have x5 := fun x => (row_cell (qx x) 5)
      simp [Mo8.cells] at x3 x4 x5
      clear qx
      refine wp_region_lw (by kernel_rfl) (by kernel_rfl) ?_
      repeat (go_big_quiet_step (first | exact rfl))
      refine wpQuiet_nil ?_
      rintro ⟨w9, hb9⟩
      dsimp only
      have R9 := R.out.next hb9
      have B9 : Below g w w9 := B.out.trans (hb9.mono (Nat.le_of_lt R.out.lt))
      clear x3 x4 x5 hb9
      replace R := Lib.hid R9
      replace B := Lib.hid B9
      clear R9 B9
      go_wp2_with fail
      go_ret2
      exact ⟨fun h => absurd h (fun h => B24.out h.1), fun _ => by rw [g1b]; rfl, R.out, B.out⟩
set_option maxRecDepth 100000 in
set_option maxHeartbeats 8000000 in
theorem ti_n0 (w : World) (g : Nat) (m : Mo8) (s : ByteArray) (hs : s.size ≤ 4000000000) (l2 : 2 < s.size) (l5 : 5 < s.size) (hl : 8 ≤ (s.size : Int)) (q2 : (((s[2]).toNat : Nat) : Int) = 58) (q5 : (((s[5]).toNat : Nat) : Int) = 58) (H M S : Int) (A3 A6 T : ByteArray) (hA3 : s.extract 3 s.size = A3) (hA6 : s.extract 6 s.size = A6) (hT : s.extract 8 s.size = T) (hTs : T.size ≤ 4000000000) (bH : ∀ w, Calls Tryz.prog 130 #[.string s, .int .i64 0, .int .i64 24] w fun e w' => e = .returned (.int .i64 H) ∧ Below w.heap.size w w') (bM : ∀ w, Calls Tryz.prog 130 #[.string A3, .int .i64 0, .int .i64 59] w fun e w' => e = .returned (.int .i64 M) ∧ Below w.heap.size w w') (bS : ∀ w, Calls Tryz.prog 130 #[.string A6, .int .i64 0, .int .i64 59] w fun e w' => e = .returned (.int .i64 S) ∧ Below w.heap.size w w') (te : (T.toList == []) = false) (k0 : 0 < T.size) (z0 : (((T[0]).toNat : Nat) : Int) = 46) (T1 : ByteArray) (hT1 : T.extract 1 T.size = T1) (hrn : ∀ w, Calls Tryz.prog 108 #[.string T1] w fun e w' => e = .returned (.int .i64 0) ∧ w = w') (hr : MoAt w g m) :
    Calls Tryz.prog 91 #[.pointer (some ⟨g, 0, none⟩), .string s] w fun e w' => e = .returned (.tuple #[.string ⟨#[]⟩, .bool false]) ∧ MoAt w' g { m with h := H, mi := M, s := S } ∧ Below g w w' := by
  have HRN := Lib.hid hrn
  clear hrn
  have BH := Lib.hid bH
  have BM := Lib.hid bM
  have BS := Lib.hid bS
  have R := Lib.hid hr
  have B := Lib.hid (Below.refl g w)
  clear bH bM bS hr
  go_enter Tryz.func91, Tryz.ntmps91
  go_upto_region 3 with fail
  have ci := row_cell R.out 3
  have fz := R.out.froz
  simp [Mo8.cells] at ci
  go_upto_region 4 with (go_at_call 130; (with_reducible refine (BH.out _).mono ?_); rintro e' wx ⟨rfl, hbx⟩; (have Rx := R.out.next hbx); (have ci' := row_cell Rx 3); (have fz' := Rx.froz); (simp [Mo8.cells] at ci'))
  have Bx : Below g w wx := B.out.trans (hbx.mono (Nat.le_of_lt R.out.lt))
  have Ry : MoAt (wx.setCell ⟨g, 3, none⟩ (.int .i64 H)) g { m with h := H } := Rx.set 3 _ rfl
  have By : Below g w (wx.setCell ⟨g, 3, none⟩ (.int .i64 H)) := bel_set Bx 3 _
  generalize World.setCell wx _ _ = w3 at Ry By ⊢
  clear ci fz ci' fz' Rx Bx hbx
  replace R := Lib.hid Ry
  replace B := Lib.hid By
  clear Ry By
  have ci := row_cell R.out 4
  have fz := R.out.froz
  simp [Mo8.cells] at ci
  go_upto_region 5 with (go_at_call 130; (with_reducible refine (BM.out _).mono ?_); rintro e' wx ⟨rfl, hbx⟩; (have Rx := R.out.next hbx); (have ci' := row_cell Rx 4); (have fz' := Rx.froz); (simp [Mo8.cells] at ci'))
  have Bx : Below g w wx := B.out.trans (hbx.mono (Nat.le_of_lt R.out.lt))
  have Ry : MoAt (wx.setCell ⟨g, 4, none⟩ (.int .i64 M)) g { m with h := H, mi := M } := Rx.set 4 _ rfl
  have By : Below g w (wx.setCell ⟨g, 4, none⟩ (.int .i64 M)) := bel_set Bx 4 _
  generalize World.setCell wx _ _ = w4 at Ry By ⊢
  clear ci fz ci' fz' Rx Bx hbx
  replace R := Lib.hid Ry
  replace B := Lib.hid By
  clear Ry By
  have ci := row_cell R.out 5
  have fz := R.out.froz
  simp [Mo8.cells] at ci
  go_upto_region 6 with (go_at_call 130; (with_reducible refine (BS.out _).mono ?_); rintro e' wx ⟨rfl, hbx⟩; (have Rx := R.out.next hbx); (have ci' := row_cell Rx 5); (have fz' := Rx.froz); (simp [Mo8.cells] at ci'))
  have Bx : Below g w wx := B.out.trans (hbx.mono (Nat.le_of_lt R.out.lt))
  have Ry : MoAt (wx.setCell ⟨g, 5, none⟩ (.int .i64 S)) g { m with h := H, mi := M, s := S } := Rx.set 5 _ rfl
  have By : Below g w (wx.setCell ⟨g, 5, none⟩ (.int .i64 S)) := bel_set Bx 5 _
  generalize World.setCell wx _ _ = w5 at Ry By ⊢
  clear ci fz ci' fz' Rx Bx hbx
  replace R := Lib.hid Ry
  replace B := Lib.hid By
  clear Ry By
  go_upto_region 7 with fail
  go_wp2_with (go_at_call 108; (with_reducible refine (HRN.out _).mono ?_); rintro e' w' ⟨rfl, rfl⟩)
  go_ret2
  exact ⟨rfl, R.out, B.out⟩
set_option maxRecDepth 100000 in
set_option maxHeartbeats 8000000 in
theorem ti_dot (w : World) (g : Nat) (m : Mo8) (s : ByteArray) (hs : s.size ≤ 4000000000) (l2 : 2 < s.size) (l5 : 5 < s.size) (hl : 8 ≤ (s.size : Int)) (q2 : (((s[2]).toNat : Nat) : Int) = 58) (q5 : (((s[5]).toNat : Nat) : Int) = 58) (H M S : Int) (A3 A6 T : ByteArray) (hA3 : s.extract 3 s.size = A3) (hA6 : s.extract 6 s.size = A6) (hT : s.extract 8 s.size = T) (hTs : T.size ≤ 4000000000) (bH : ∀ w, Calls Tryz.prog 130 #[.string s, .int .i64 0, .int .i64 24] w fun e w' => e = .returned (.int .i64 H) ∧ Below w.heap.size w w') (bM : ∀ w, Calls Tryz.prog 130 #[.string A3, .int .i64 0, .int .i64 59] w fun e w' => e = .returned (.int .i64 M) ∧ Below w.heap.size w w') (bS : ∀ w, Calls Tryz.prog 130 #[.string A6, .int .i64 0, .int .i64 59] w fun e w' => e = .returned (.int .i64 S) ∧ Below w.heap.size w w') (te : (T.toList == []) = false) (k0 : 0 < T.size) (z0 : (((T[0]).toNat : Nat) : Int) = 46) (T1 : ByteArray) (hT1 : T.extract 1 T.size = T1) (n : Nat) (hrn : ∀ w, Calls Tryz.prog 108 #[.string T1] w fun e w' => e = .returned (.int .i64 (n : Nat)) ∧ w = w') (n0 : (n : Int) ≠ 0) (hn : n + 1 ≤ T.size) (F0 T2 : ByteArray) (hF0 : T.extract 1 (1 + n) = F0) (hT2 : T.extract (1 + n) T.size = T2) (hT2s : T2.size ≤ 4000000000) (hFs : F0.size ≤ 4000000000) (hr : MoAt w g m) :
    Calls Tryz.prog 91 #[.pointer (some ⟨g, 0, none⟩), .string s] w fun e w' => ∃ f : ByteArray, f.data.toList = tr0 F0.data.toList ∧ TiEnd T2 f H M S g m w e w' := by
  have HRN := Lib.hid hrn
  have n0b : ((n : Int) == 0) = false := beq_false_of_ne n0
  have kn : IntKind.i64.wrap (1 + (n : Int)) = 1 + (n : Int) := by rw [IntKind.wrap_i64]; omega
  have kn2 : (1 + (n : Int)).toNat = 1 + n := by omega
  clear hrn
  have BH := Lib.hid bH
  have BM := Lib.hid bM
  have BS := Lib.hid bS
  have R := Lib.hid hr
  have B := Lib.hid (Below.refl g w)
  clear bH bM bS hr
  go_enter Tryz.func91, Tryz.ntmps91
  go_upto_region 3 with fail
  have ci := row_cell R.out 3
  have fz := R.out.froz
  simp [Mo8.cells] at ci
  go_upto_region 4 with (go_at_call 130; (with_reducible refine (BH.out _).mono ?_); rintro e' wx ⟨rfl, hbx⟩; (have Rx := R.out.next hbx); (have ci' := row_cell Rx 3); (have fz' := Rx.froz); (simp [Mo8.cells] at ci'))
  have Bx : Below g w wx := B.out.trans (hbx.mono (Nat.le_of_lt R.out.lt))
  have Ry : MoAt (wx.setCell ⟨g, 3, none⟩ (.int .i64 H)) g { m with h := H } := Rx.set 3 _ rfl
  have By : Below g w (wx.setCell ⟨g, 3, none⟩ (.int .i64 H)) := bel_set Bx 3 _
  generalize World.setCell wx _ _ = w3 at Ry By ⊢
  clear ci fz ci' fz' Rx Bx hbx
  replace R := Lib.hid Ry
  replace B := Lib.hid By
  clear Ry By
  have ci := row_cell R.out 4
  have fz := R.out.froz
  simp [Mo8.cells] at ci
  go_upto_region 5 with (go_at_call 130; (with_reducible refine (BM.out _).mono ?_); rintro e' wx ⟨rfl, hbx⟩; (have Rx := R.out.next hbx); (have ci' := row_cell Rx 4); (have fz' := Rx.froz); (simp [Mo8.cells] at ci'))
  have Bx : Below g w wx := B.out.trans (hbx.mono (Nat.le_of_lt R.out.lt))
  have Ry : MoAt (wx.setCell ⟨g, 4, none⟩ (.int .i64 M)) g { m with h := H, mi := M } := Rx.set 4 _ rfl
  have By : Below g w (wx.setCell ⟨g, 4, none⟩ (.int .i64 M)) := bel_set Bx 4 _
  generalize World.setCell wx _ _ = w4 at Ry By ⊢
  clear ci fz ci' fz' Rx Bx hbx
  replace R := Lib.hid Ry
  replace B := Lib.hid By
  clear Ry By
  have ci := row_cell R.out 5
  have fz := R.out.froz
  simp [Mo8.cells] at ci
  go_upto_region 6 with (go_at_call 130; (with_reducible refine (BS.out _).mono ?_); rintro e' wx ⟨rfl, hbx⟩; (have Rx := R.out.next hbx); (have ci' := row_cell Rx 5); (have fz' := Rx.froz); (simp [Mo8.cells] at ci'))
  have Bx : Below g w wx := B.out.trans (hbx.mono (Nat.le_of_lt R.out.lt))
  have Ry : MoAt (wx.setCell ⟨g, 5, none⟩ (.int .i64 S)) g { m with h := H, mi := M, s := S } := Rx.set 5 _ rfl
  have By : Below g w (wx.setCell ⟨g, 5, none⟩ (.int .i64 S)) := bel_set Bx 5 _
  generalize World.setCell wx _ _ = w5 at Ry By ⊢
  clear ci fz ci' fz' Rx Bx hbx
  replace R := Lib.hid Ry
  replace B := Lib.hid By
  clear Ry By
  go_upto_region 7 with fail
  have c6 := row_cell R.out 6
  have fz := R.out.froz
  simp [Mo8.cells] at c6
  go_upto_region 11 with (go_at_call 108; (with_reducible refine (HRN.out _).mono ?_); rintro e' w' ⟨rfl, rfl⟩)
  have R6 : MoAt (w5.setCell ⟨g, 6, none⟩ (.string F0)) g { m with h := H, mi := M, s := S, f := F0 } := R.out.set 6 _ rfl
  have B6 : Below g w (w5.setCell ⟨g, 6, none⟩ (.string F0)) := bel_set B.out 6 _
  replace R := Lib.hid R6
  replace B := Lib.hid B6
  clear R6 B6
  go_wp2_with fail
  clear c6 fz
  generalize World.setCell w5 _ _ = w6 at R B ⊢
  go_loopw [58] (fun _ wr => ∃ f : ByteArray, f.size ≤ F0.size ∧ MoAt wr g { m with h := H, mi := M, s := S, f := f } ∧ Below g w wr ∧ tr0 F0.data.toList = tr0 f.data.toList) (fun _ wr => fLen (wr.cell? ⟨g, 6, none⟩))
  case atStart => exact ⟨F0, Nat.le_refl _, R.out, B.out, rfl⟩
  case round =>
    clear R B
    obtain ⟨f, hfs, R0, B0, htr⟩ := hrel
    have R := Lib.hid R0
    have B := Lib.hid B0
    have HTR := Lib.hid htr
    have qx := Lw.row R0
    have x6 := fun x => (row_cell (qx x) 6)
    simp [Mo8.cells] at x6
    have hm6 := row_cell R0 6
    have HM6 := Lib.hid hm6
    clear qx R0 B0 htr hm6
    by_cases fe : f.data.toList = []
    · have feb : (f.toList == []) = true := by rw [Lib.toList_data, fe]; rfl
      have hfe : f.data.toList = tr0 F0.data.toList := by rw [HTR.out, fe]; rfl
      have HFE := Lib.hid hfe
      clear hfe
      have BF := Lib.hid fe
      clear fe HTR HM6
      go_upto_region 12 with fail
      refine wp_region_lw (by kernel_rfl) (by kernel_rfl) ?_
      repeat (go_big_quiet_step (first | exact rfl))
      refine wpQuiet_nil ?_
      rintro ⟨w8, hb8⟩
      dsimp only
      have R9 := R.out.next hb8
      have B9 : Below g w w8 := B.out.trans (hb8.mono (Nat.le_of_lt R.out.lt))
      clear x6 hb8
      replace R := Lib.hid R9
      replace B := Lib.hid B9
      clear R9 B9
      go_upto_region 15 with fail
      clear hfs
      have c3 := row_cell R.out 3
      have c4 := row_cell R.out 4
      have c5 := row_cell R.out 5
      have c6 := row_cell R.out 6
      simp [Mo8.cells] at c3 c4 c5 c6
      by_cases b24 : H = 24
      · by_cases bm : M = 0
        · by_cases bs : S = 0
          ·
            go_upto_region 17 with fail
            clear c3 c4 c5 c6
            have qx := Lw.row R.out
            have x3 := fun x => (row_cell (qx x) 3)
            have x4 := fun x => (row_cell (qx x) 4)
            have x5 := fun x => (row_cell (qx x) 5)
            simp [Mo8.cells] at x3 x4 x5
            clear qx
            refine wp_region_lw (by kernel_rfl) (by kernel_rfl) ?_
            repeat (go_big_quiet_step (first | exact rfl))
            refine wpQuiet_nil ?_
            rintro ⟨w9, hb9⟩
            dsimp only
            have R9 := R.out.next hb9
            have B9 : Below g w w9 := B.out.trans (hb9.mono (Nat.le_of_lt R.out.lt))
            clear x3 x4 x5 hb9
            replace R := Lib.hid R9
            replace B := Lib.hid B9
            clear R9 B9
            go_wp2_with fail
            go_ret2
            exact ⟨f, HFE.out, fun h => absurd h (by rintro ⟨_, h | h | h⟩; exact h bm; exact h bs; exact h BF.out), fun _ => by rw [b24, bm, bs]; rfl, R.out, B.out⟩
          · have bsb : (S != 0) = true := bne_iff_ne.2 bs
            go_wp2_with fail
            go_ret2
            exact ⟨f, HFE.out, fun _ => rfl, fun h => absurd ⟨b24, .inr (.inl bs)⟩ h, R.out, B.out⟩
        · have bmb : (M != 0) = true := bne_iff_ne.2 bm
          go_wp2_with fail
          go_ret2
          exact ⟨f, HFE.out, fun _ => rfl, fun h => absurd ⟨b24, .inl bm⟩ h, R.out, B.out⟩
      · have b24b : (H == 24) = false := beq_false_of_ne b24
        have B24 := Lib.hid b24
        clear b24
        by_cases g1 : 0 ≤ H
        · have g1b : decide (0 ≤ H) = true := decide_eq_true g1
          by_cases g2 : 0 ≤ M
          · have g2b : decide (0 ≤ M) = true := decide_eq_true g2
            go_upto_region 17 with fail
            clear c3 c4 c5 c6
            have qx := Lw.row R.out
            have x3 := fun x => (row_cell (qx x) 3)
            have x4 := fun x => (row_cell (qx x) 4)
            have x5 := fun x => (row_cell (qx x) 5)
            simp [Mo8.cells] at x3 x4 x5
            clear qx
            refine wp_region_lw (by kernel_rfl) (by kernel_rfl) ?_
            repeat (go_big_quiet_step (first | exact rfl))
            refine wpQuiet_nil ?_
            rintro ⟨w9, hb9⟩
            dsimp only
            have R9 := R.out.next hb9
            have B9 : Below g w w9 := B.out.trans (hb9.mono (Nat.le_of_lt R.out.lt))
            clear x3 x4 x5 hb9
            replace R := Lib.hid R9
            replace B := Lib.hid B9
            clear R9 B9
            go_wp2_with fail
            go_ret2
            exact ⟨f, HFE.out, fun h => absurd h (fun h => B24.out h.1), fun _ => by rw [g1b, g2b]; rfl, R.out, B.out⟩
          · have g2b : decide (0 ≤ M) = false := decide_eq_false g2
            clear g2
            go_upto_region 17 with fail
            clear c3 c4 c5 c6
            have qx := Lw.row R.out
            have x3 := fun x => (row_cell (qx x) 3)
            have x4 := fun x => (row_cell (qx x) 4)
            have x5 := fun x => (row_cell (qx x) 5)
            simp [Mo8.cells] at x3 x4 x5
            clear qx
            refine wp_region_lw (by kernel_rfl) (by kernel_rfl) ?_
            repeat (go_big_quiet_step (first | exact rfl))
            refine wpQuiet_nil ?_
            rintro ⟨w9, hb9⟩
            dsimp only
            have R9 := R.out.next hb9
            have B9 : Below g w w9 := B.out.trans (hb9.mono (Nat.le_of_lt R.out.lt))
            clear x3 x4 x5 hb9
            replace R := Lib.hid R9
            replace B := Lib.hid B9
            clear R9 B9
            go_wp2_with fail
            go_ret2
            exact ⟨f, HFE.out, fun h => absurd h (fun h => B24.out h.1), fun _ => by rw [g1b, g2b]; rfl, R.out, B.out⟩
        · have g1b : decide (0 ≤ H) = false := decide_eq_false g1
          clear g1
          go_upto_region 17 with fail
          clear c3 c4 c5 c6
          have qx := Lw.row R.out
          have x3 := fun x => (row_cell (qx x) 3)
          have x4 := fun x => (row_cell (qx x) 4)
          have x5 := fun x => (row_cell (qx x) 5)
          simp [Mo8.cells] at x3 x4 x5
          clear qx
          refine wp_region_lw (by kernel_rfl) (by kernel_rfl) ?_
          repeat (go_big_quiet_step (first | exact rfl))
          refine wpQuiet_nil ?_
          rintro ⟨w9, hb9⟩
          dsimp only
          have R9 := R.out.next hb9
          have B9 : Below g w w9 := B.out.trans (hb9.mono (Nat.le_of_lt R.out.lt))
          clear x3 x4 x5 hb9
          replace R := Lib.hid R9
          replace B := Lib.hid B9
          clear R9 B9
          go_wp2_with fail
          go_ret2
          exact ⟨f, HFE.out, fun h => absurd h (fun h => B24.out h.1), fun _ => by rw [g1b]; rfl, R.out, B.out⟩
    · have feb : (f.toList == []) = false := by rw [Lib.toList_data]; exact beq_false_of_ne fe
      have hfl : 0 < f.size := by
        rw [Lib.size_eq]; exact List.length_pos_iff.2 fe
      obtain ⟨p, hp⟩ : ∃ p, p + 1 = f.size := ⟨f.size - 1, by omega⟩
      have hpl : p < f.size := by omega
      have hpk : p < f.data.toList.length := by rw [← Lib.size_eq]; exact hpl
      have hsnoc : f.data.toList = f.data.toList.take p ++ [f[p]] := by
        have h1 := List.take_append_drop p f.data.toList
        rw [List.drop_eq_getElem_cons hpk, List.drop_of_length_le (by rw [← Lib.size_eq]; omega), ba_get f p hpl] at h1
        exact h1.symm
      have kp : IntKind.i64.wrap ((f.size : Int) - 1) = (p : Int) := by rw [IntKind.wrap_i64]; omega
      have kp2 : (f.size : Int) - 1 = (p : Int) := by omega
      have HP := Lib.hid hp
      have BF := Lib.hid fe
      have HSN := Lib.hid hsnoc
      clear fe hp hsnoc
      by_cases c48 : f[p] = 48
      · have x48 : (((f[p]).toNat : Nat) : Int) = 48 := by rw [c48]; rfl
        obtain ⟨f2, hf2⟩ : ∃ f2, f.extract 0 p = f2 := ⟨_, rfl⟩
        have hf2d : f2.data.toList = f.data.toList.take p := by rw [← hf2, ex_take]
        have hf2s : f2.size = p := by rw [Lib.size_eq, hf2d, List.length_take, ← Lib.size_eq]; omega
        have htr2 : tr0 F0.data.toList = tr0 f2.data.toList := by
          have h1 := HTR.out
          rw [HSN.out, c48, tr0_more, ← hf2d] at h1
          exact h1
        have HTR2 := Lib.hid htr2
        have HF2S := Lib.hid hf2s
        clear htr2 hf2d hf2s c48 HSN HTR
        go_upto_region 12 with fail
        refine wp_region_lw (by kernel_rfl) (by kernel_rfl) ?_
        repeat (go_big_quiet_step (first | exact rfl))
        refine wpQuiet_nil ?_
        rintro ⟨w8, hb8⟩
        dsimp only
        have R9 := R.out.next hb8
        have B9 : Below g w w8 := B.out.trans (hb8.mono (Nat.le_of_lt R.out.lt))
        clear x6 hb8
        replace R := Lib.hid R9
        replace B := Lib.hid B9
        clear R9 B9
        have qx := Lw.row R.out
        have x6 := fun x => (row_cell (qx x) 6)
        simp [Mo8.cells] at x6
        clear qx
        go_upto_region 13 with fail
        refine wp_region_lw_tail 14 (by kernel_rfl) (by kernel_rfl) ?_
        simp only [List.take_succ_cons, List.take_zero, List.drop_succ_cons, List.drop_zero]
        repeat (go_big_quiet_step (first | exact rfl))
        refine wpQuiet_nil ?_
        rintro ⟨w9, hb9⟩
        dsimp only
        clear x6
        have R9 := R.out.next hb9
        have B9 : Below g w w9 := B.out.trans (hb9.mono (Nat.le_of_lt R.out.lt))
        have c6 := row_cell R9 6
        have fz := R9.froz
        simp [Mo8.cells] at c6
        have R10 : MoAt (w9.setCell ⟨g, 6, none⟩ (.string f2)) g { m with h := H, mi := M, s := S, f := f2 } := R9.set 6 _ rfl
        have B10 : Below g w (w9.setCell ⟨g, 6, none⟩ (.string f2)) := bel_set B9 6 _
        clear R9 B9 hb9
        have HR10 := Lib.hid R10
        have HB10 := Lib.hid B10
        clear R10 B10
        go_wp2_with fail
        go_roundw
        case rel => exact ⟨f2, by have := HF2S.out; have := HP.out; omega, HR10.out, HB10.out, HTR2.out⟩
        case measure =>
          have h1 := row_cell HR10.out 6
          have h2 := HM6.out
          have := HF2S.out
          have := HP.out
          simp [Mo8.cells] at h1 h2
          simp [fLen, h1, h2]
          omega
      · have x48 : ((((f[p]).toNat : Nat) : Int) == 48) = false := beq_false_of_ne fun e => c48 (UInt8.toNat.inj (by have : (48 : UInt8).toNat = 48 := rfl; omega))
        have hfe : f.data.toList = tr0 F0.data.toList := by rw [HTR.out, HSN.out, tr0_last _ c48]
        have HFE := Lib.hid hfe
        clear hfe
        clear c48 HSN HTR HM6
        go_upto_region 12 with fail
        refine wp_region_lw (by kernel_rfl) (by kernel_rfl) ?_
        repeat (go_big_quiet_step (first | exact rfl))
        refine wpQuiet_nil ?_
        rintro ⟨w8, hb8⟩
        dsimp only
        have R9 := R.out.next hb8
        have B9 : Below g w w8 := B.out.trans (hb8.mono (Nat.le_of_lt R.out.lt))
        clear x6 hb8
        replace R := Lib.hid R9
        replace B := Lib.hid B9
        clear R9 B9
        go_upto_region 15 with fail
        clear hfs
        have c3 := row_cell R.out 3
        have c4 := row_cell R.out 4
        have c5 := row_cell R.out 5
        have c6 := row_cell R.out 6
        simp [Mo8.cells] at c3 c4 c5 c6
        by_cases b24 : H = 24
        · by_cases bm : M = 0
          · by_cases bs : S = 0
            ·
              go_wp2_with fail
              go_ret2
              exact ⟨f, HFE.out, fun _ => rfl, fun h => absurd ⟨b24, .inr (.inr BF.out)⟩ h, R.out, B.out⟩
            · have bsb : (S != 0) = true := bne_iff_ne.2 bs
              go_wp2_with fail
              go_ret2
              exact ⟨f, HFE.out, fun _ => rfl, fun h => absurd ⟨b24, .inr (.inl bs)⟩ h, R.out, B.out⟩
          · have bmb : (M != 0) = true := bne_iff_ne.2 bm
            go_wp2_with fail
            go_ret2
            exact ⟨f, HFE.out, fun _ => rfl, fun h => absurd ⟨b24, .inl bm⟩ h, R.out, B.out⟩
        · have b24b : (H == 24) = false := beq_false_of_ne b24
          have B24 := Lib.hid b24
          clear b24
          by_cases g1 : 0 ≤ H
          · have g1b : decide (0 ≤ H) = true := decide_eq_true g1
            by_cases g2 : 0 ≤ M
            · have g2b : decide (0 ≤ M) = true := decide_eq_true g2
              go_upto_region 17 with fail
              clear c3 c4 c5 c6
              have qx := Lw.row R.out
              have x3 := fun x => (row_cell (qx x) 3)
              have x4 := fun x => (row_cell (qx x) 4)
              have x5 := fun x => (row_cell (qx x) 5)
              simp [Mo8.cells] at x3 x4 x5
              clear qx
              refine wp_region_lw (by kernel_rfl) (by kernel_rfl) ?_
              repeat (go_big_quiet_step (first | exact rfl))
              refine wpQuiet_nil ?_
              rintro ⟨w9, hb9⟩
              dsimp only
              have R9 := R.out.next hb9
              have B9 : Below g w w9 := B.out.trans (hb9.mono (Nat.le_of_lt R.out.lt))
              clear x3 x4 x5 hb9
              replace R := Lib.hid R9
              replace B := Lib.hid B9
              clear R9 B9
              go_wp2_with fail
              go_ret2
              exact ⟨f, HFE.out, fun h => absurd h (fun h => B24.out h.1), fun _ => by rw [g1b, g2b]; rfl, R.out, B.out⟩
            · have g2b : decide (0 ≤ M) = false := decide_eq_false g2
              clear g2
              go_upto_region 17 with fail
              clear c3 c4 c5 c6
              have qx := Lw.row R.out
              have x3 := fun x => (row_cell (qx x) 3)
              have x4 := fun x => (row_cell (qx x) 4)
              have x5 := fun x => (row_cell (qx x) 5)
              simp [Mo8.cells] at x3 x4 x5
              clear qx
              refine wp_region_lw (by kernel_rfl) (by kernel_rfl) ?_
              repeat (go_big_quiet_step (first | exact rfl))
              refine wpQuiet_nil ?_
              rintro ⟨w9, hb9⟩
              dsimp only
              have R9 := R.out.next hb9
              have B9 : Below g w w9 := B.out.trans (hb9.mono (Nat.le_of_lt R.out.lt))
              clear x3 x4 x5 hb9
              replace R := Lib.hid R9
              replace B := Lib.hid B9
              clear R9 B9
              go_wp2_with fail
              go_ret2
              exact ⟨f, HFE.out, fun h => absurd h (fun h => B24.out h.1), fun _ => by rw [g1b, g2b]; rfl, R.out, B.out⟩
          · have g1b : decide (0 ≤ H) = false := decide_eq_false g1
            clear g1
            go_upto_region 17 with fail
            clear c3 c4 c5 c6
            have qx := Lw.row R.out
            have x3 := fun x => (row_cell (qx x) 3)
            have x4 := fun x => (row_cell (qx x) 4)
            have x5 := fun x => (row_cell (qx x) 5)
            simp [Mo8.cells] at x3 x4 x5
            clear qx
            refine wp_region_lw (by kernel_rfl) (by kernel_rfl) ?_
            repeat (go_big_quiet_step (first | exact rfl))
            refine wpQuiet_nil ?_
            rintro ⟨w9, hb9⟩
            dsimp only
            have R9 := R.out.next hb9
            have B9 : Below g w w9 := B.out.trans (hb9.mono (Nat.le_of_lt R.out.lt))
            clear x3 x4 x5 hb9
            replace R := Lib.hid R9
            replace B := Lib.hid B9
            clear R9 B9
            go_wp2_with fail
            go_ret2
            exact ⟨f, HFE.out, fun h => absurd h (fun h => B24.out h.1), fun _ => by rw [g1b]; rfl, R.out, B.out⟩
end Go.Proofs.YtlhcejbimlilaaaGreatDoor
