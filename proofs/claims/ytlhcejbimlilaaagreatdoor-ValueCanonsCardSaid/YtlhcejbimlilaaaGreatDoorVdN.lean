/- The document's moment in memory; its zone (written by gen_vdn.py). -/
import Derived.Test.YtlhcejbimlilaaaGreatDoorVdH
import Derived.Test.YtlhcejbimlilaaaGreatDoorVaJ
set_option linter.unusedVariables false
set_option linter.unusedSimpArgs false
namespace Go.Proofs.YtlhcejbimlilaaaGreatDoor
open Go.RowKit Go.Tk
structure Mo8 where
  y : Int
  mo : Int
  d : Int
  h : Int
  mi : Int
  s : Int
  f : ByteArray
  z : Bool
  o : Int
def Mo8.cells (m : Mo8) : Array Value := #[.int .i64 m.y, .int .i64 m.mo, .int .i64 m.d, .int .i64 m.h, .int .i64 m.mi, .int .i64 m.s, .string m.f, .bool m.z, .int .i64 m.o]
/-- A moment lies there. -/
def MoAt (w : World) (g : Nat) (m : Mo8) : Prop := w.heap[g]? = some (.cells m.cells 69 (0, 0))
theorem MoAt.lt {w : World} {g : Nat} {m : Mo8} (h : MoAt w g m) : g < w.heap.size := (Array.getElem?_eq_some_iff.1 h).1
theorem MoAt.next {w x : World} {g : Nat} {m : Mo8} (h : MoAt w g m) (hb : Below w.heap.size w x) : MoAt x g m := (hb.block g h.lt).trans h
theorem MoAt.froz {w : World} {g : Nat} {m : Mo8} (h : MoAt w g m) : ∀ i, w.frozen? ⟨g, i, none⟩ = false := fun i => frozen_of_row _ _ _ _ _ h
theorem MoAt.set {w : World} {g : Nat} {m m2 : Mo8} (h : MoAt w g m) (i : Nat) (v : Value) (hc : m.cells.setIfInBounds i v = m2.cells) : MoAt (w.setCell ⟨g, i, none⟩ v) g m2 := by
  unfold MoAt at h ⊢
  have := set_row (i := i) (v := v) h hc
  exact this
theorem bel_set {g : Nat} {w x : World} (h : Below g w x) (i : Nat) (v : Value) : Below g w (x.setCell ⟨g, i, none⟩ v) := h.setCell (p := ⟨g, i, none⟩) (Nat.le_refl _) v
set_option maxHeartbeats 2000000 in
theorem zo_nil (w : World) (g : Nat) (m : Mo8) (s : ByteArray) (hz : (s.toList == []) = true) (hr : MoAt w g m) :
    Calls Tryz.prog 92 #[.pointer (some ⟨g, 0, none⟩), .string s] w fun e w' => e = .returned (.bool true) ∧ w = w' := by
  have HR := Lib.hid hr
  have c7 := row_cell hr 7
  have c8 := row_cell hr 8
  have fz := hr.froz
  simp [Mo8.cells] at c7 c8
  clear hr
  clear c7 c8 fz HR
  go_enter Tryz.func92, Tryz.ntmps92
  go_wp2_with fail
  go_ret
  exact ⟨rfl, rfl⟩
set_option maxHeartbeats 2000000 in
theorem zo_Z (w : World) (g : Nat) (m : Mo8) (s : ByteArray) (hz : (s.toList == []) = false) (h9 : (s.toList == [90]) = true) (hr : MoAt w g m) :
    Calls Tryz.prog 92 #[.pointer (some ⟨g, 0, none⟩), .string s] w fun e w' => e = .returned (.bool true) ∧ MoAt w' g { m with z := true, o := m.o } ∧ Below g w w' := by
  have HR := Lib.hid hr
  have c7 := row_cell hr 7
  have c8 := row_cell hr 8
  have fz := hr.froz
  simp [Mo8.cells] at c7 c8
  clear hr
  go_enter Tryz.func92, Tryz.ntmps92
  go_upto_region 4 with fail
  have r1 : MoAt (w.setCell ⟨g, 7, none⟩ (.bool true)) g { m with z := true } := HR.out.set 7 (.bool true) rfl
  have b1 : Below g w (w.setCell ⟨g, 7, none⟩ (.bool true)) := bel_set (Below.refl _ _) 7 _
  generalize World.setCell w _ _ = w1 at r1 b1 ⊢
  have B1 := Lib.hid b1
  have R1 := Lib.hid r1
  clear b1 c7 c8 fz HR r1
  go_wp2_with fail
  go_ret
  exact ⟨rfl, R1.out, B1.out⟩
set_option maxHeartbeats 2000000 in
theorem zo_len (w : World) (g : Nat) (m : Mo8) (s : ByteArray) (hz : (s.toList == []) = false) (h9 : (s.toList == [90]) = false) (hl : (s.size : Int) ≠ 6) (hr : MoAt w g m) :
    Calls Tryz.prog 92 #[.pointer (some ⟨g, 0, none⟩), .string s] w fun e w' => e = .returned (.bool false) ∧ MoAt w' g { m with z := true, o := m.o } ∧ Below g w w' := by
  have HR := Lib.hid hr
  have c7 := row_cell hr 7
  have c8 := row_cell hr 8
  have fz := hr.froz
  simp [Mo8.cells] at c7 c8
  clear hr
  have hlb : ((s.size : Int) != 6) = true := bne_iff_ne.2 hl
  go_enter Tryz.func92, Tryz.ntmps92
  go_upto_region 4 with fail
  have r1 : MoAt (w.setCell ⟨g, 7, none⟩ (.bool true)) g { m with z := true } := HR.out.set 7 (.bool true) rfl
  have b1 : Below g w (w.setCell ⟨g, 7, none⟩ (.bool true)) := bel_set (Below.refl _ _) 7 _
  generalize World.setCell w _ _ = w1 at r1 b1 ⊢
  have B1 := Lib.hid b1
  have R1 := Lib.hid r1
  clear b1 c7 c8 fz HR r1
  go_wp2_with fail
  go_ret
  exact ⟨rfl, R1.out, B1.out⟩
set_option maxHeartbeats 2000000 in
theorem zo_col (w : World) (g : Nat) (m : Mo8) (s : ByteArray) (hz : (s.toList == []) = false) (h9 : (s.toList == [90]) = false) (h0 : 0 < s.size) (h3 : 3 < s.size) (h6 : (s.size : Int) = 6) (hc : (((s[3]).toNat : Nat) : Int) ≠ 58) (hr : MoAt w g m) :
    Calls Tryz.prog 92 #[.pointer (some ⟨g, 0, none⟩), .string s] w fun e w' => e = .returned (.bool false) ∧ MoAt w' g { m with z := true, o := m.o } ∧ Below g w w' := by
  have HR := Lib.hid hr
  have c7 := row_cell hr 7
  have c8 := row_cell hr 8
  have fz := hr.froz
  simp [Mo8.cells] at c7 c8
  clear hr
  have hcb : ((((s[3]).toNat : Nat) : Int) != 58) = true := bne_iff_ne.2 hc
  go_enter Tryz.func92, Tryz.ntmps92
  go_upto_region 4 with fail
  have r1 : MoAt (w.setCell ⟨g, 7, none⟩ (.bool true)) g { m with z := true } := HR.out.set 7 (.bool true) rfl
  have b1 : Below g w (w.setCell ⟨g, 7, none⟩ (.bool true)) := bel_set (Below.refl _ _) 7 _
  generalize World.setCell w _ _ = w1 at r1 b1 ⊢
  have B1 := Lib.hid b1
  have R1 := Lib.hid r1
  clear b1 c7 c8 fz HR r1
  go_wp2_with fail
  go_ret
  exact ⟨rfl, R1.out, B1.out⟩
set_option maxHeartbeats 2000000 in
theorem zo_sgn (w : World) (g : Nat) (m : Mo8) (s : ByteArray) (hz : (s.toList == []) = false) (h9 : (s.toList == [90]) = false) (h0 : 0 < s.size) (h3 : 3 < s.size) (h6 : (s.size : Int) = 6) (hc : (((s[3]).toNat : Nat) : Int) = 58) (hp : (((s[0]).toNat : Nat) : Int) ≠ 43) (hm : (((s[0]).toNat : Nat) : Int) ≠ 45) (hr : MoAt w g m) :
    Calls Tryz.prog 92 #[.pointer (some ⟨g, 0, none⟩), .string s] w fun e w' => e = .returned (.bool false) ∧ MoAt w' g { m with z := true, o := m.o } ∧ Below g w w' := by
  have HR := Lib.hid hr
  have c7 := row_cell hr 7
  have c8 := row_cell hr 8
  have fz := hr.froz
  simp [Mo8.cells] at c7 c8
  clear hr
  have hpb : ((((s[0]).toNat : Nat) : Int) != 43) = true := bne_iff_ne.2 hp
  have hmb : ((((s[0]).toNat : Nat) : Int) != 45) = true := bne_iff_ne.2 hm
  go_enter Tryz.func92, Tryz.ntmps92
  go_upto_region 4 with fail
  have r1 : MoAt (w.setCell ⟨g, 7, none⟩ (.bool true)) g { m with z := true } := HR.out.set 7 (.bool true) rfl
  have b1 : Below g w (w.setCell ⟨g, 7, none⟩ (.bool true)) := bel_set (Below.refl _ _) 7 _
  generalize World.setCell w _ _ = w1 at r1 b1 ⊢
  have B1 := Lib.hid b1
  have R1 := Lib.hid r1
  clear b1 c7 c8 fz HR r1
  go_wp2_with fail
  go_ret
  exact ⟨rfl, R1.out, B1.out⟩
set_option maxHeartbeats 2000000 in
theorem zo_bhp (w : World) (g : Nat) (m : Mo8) (s : ByteArray) (hz : (s.toList == []) = false) (h9 : (s.toList == [90]) = false) (h0 : 0 < s.size) (h3 : 3 < s.size) (h6 : (s.size : Int) = 6) (hc : (((s[3]).toNat : Nat) : Int) = 58) (hp : (((s[0]).toNat : Nat) : Int) = 43) (A B : ByteArray) (hA : s.extract 1 s.size = A) (hB : s.extract 4 s.size = B) (h mi : Int) (ba : ∀ w, Calls Tryz.prog 130 #[.string A, .int .i64 0, .int .i64 14] w fun e w' => e = .returned (.int .i64 h) ∧ Below w.heap.size w w') (bb : ∀ w, Calls Tryz.prog 130 #[.string B, .int .i64 0, .int .i64 59] w fun e w' => e = .returned (.int .i64 mi) ∧ Below w.heap.size w w') (bad : h < 0) (hr : MoAt w g m) :
    Calls Tryz.prog 92 #[.pointer (some ⟨g, 0, none⟩), .string s] w fun e w' => e = .returned (.bool false) ∧ MoAt w' g { m with z := true, o := m.o } ∧ Below g w w' := by
  have BA := Lib.hid ba
  have BB := Lib.hid bb
  clear ba bb
  have HR := Lib.hid hr
  have c7 := row_cell hr 7
  have c8 := row_cell hr 8
  have fz := hr.froz
  simp [Mo8.cells] at c7 c8
  clear hr
  go_enter Tryz.func92, Tryz.ntmps92
  go_upto_region 4 with fail
  have r1 : MoAt (w.setCell ⟨g, 7, none⟩ (.bool true)) g { m with z := true } := HR.out.set 7 (.bool true) rfl
  have b1 : Below g w (w.setCell ⟨g, 7, none⟩ (.bool true)) := bel_set (Below.refl _ _) 7 _
  generalize World.setCell w _ _ = w1 at r1 b1 ⊢
  have B1 := Lib.hid b1
  have R1 := Lib.hid r1
  clear b1 c7 c8 fz HR r1
  go_wp2_with (go_at_call 130; (first | ((with_reducible refine (BA.out _).mono ?_); rintro e w2 ⟨rfl, hb2⟩) | ((with_reducible refine (BB.out _).mono ?_); rintro e w3 ⟨rfl, hb3⟩)))
  have R3 := (R1.out.next hb2).next hb3
  have B3 : Below g w w3 := (B1.out.trans (hb2.mono (Nat.le_of_lt R1.out.lt))).trans (hb3.mono (Nat.le_of_lt (R1.out.next hb2).lt))
  clear hb2 hb3
  go_ret
  exact ⟨rfl, R3, B3⟩
set_option maxHeartbeats 2000000 in
theorem zo_bmp (w : World) (g : Nat) (m : Mo8) (s : ByteArray) (hz : (s.toList == []) = false) (h9 : (s.toList == [90]) = false) (h0 : 0 < s.size) (h3 : 3 < s.size) (h6 : (s.size : Int) = 6) (hc : (((s[3]).toNat : Nat) : Int) = 58) (hp : (((s[0]).toNat : Nat) : Int) = 43) (A B : ByteArray) (hA : s.extract 1 s.size = A) (hB : s.extract 4 s.size = B) (h mi : Int) (ba : ∀ w, Calls Tryz.prog 130 #[.string A, .int .i64 0, .int .i64 14] w fun e w' => e = .returned (.int .i64 h) ∧ Below w.heap.size w w') (bb : ∀ w, Calls Tryz.prog 130 #[.string B, .int .i64 0, .int .i64 59] w fun e w' => e = .returned (.int .i64 mi) ∧ Below w.heap.size w w') (g1 : 0 ≤ h) (bad : mi < 0) (hr : MoAt w g m) :
    Calls Tryz.prog 92 #[.pointer (some ⟨g, 0, none⟩), .string s] w fun e w' => e = .returned (.bool false) ∧ MoAt w' g { m with z := true, o := m.o } ∧ Below g w w' := by
  have BA := Lib.hid ba
  have BB := Lib.hid bb
  clear ba bb
  have HR := Lib.hid hr
  have c7 := row_cell hr 7
  have c8 := row_cell hr 8
  have fz := hr.froz
  simp [Mo8.cells] at c7 c8
  clear hr
  go_enter Tryz.func92, Tryz.ntmps92
  go_upto_region 4 with fail
  have r1 : MoAt (w.setCell ⟨g, 7, none⟩ (.bool true)) g { m with z := true } := HR.out.set 7 (.bool true) rfl
  have b1 : Below g w (w.setCell ⟨g, 7, none⟩ (.bool true)) := bel_set (Below.refl _ _) 7 _
  generalize World.setCell w _ _ = w1 at r1 b1 ⊢
  have B1 := Lib.hid b1
  have R1 := Lib.hid r1
  clear b1 c7 c8 fz HR r1
  go_wp2_with (go_at_call 130; (first | ((with_reducible refine (BA.out _).mono ?_); rintro e w2 ⟨rfl, hb2⟩) | ((with_reducible refine (BB.out _).mono ?_); rintro e w3 ⟨rfl, hb3⟩)))
  have R3 := (R1.out.next hb2).next hb3
  have B3 : Below g w w3 := (B1.out.trans (hb2.mono (Nat.le_of_lt R1.out.lt))).trans (hb3.mono (Nat.le_of_lt (R1.out.next hb2).lt))
  clear hb2 hb3
  go_ret
  exact ⟨rfl, R3, B3⟩
set_option maxHeartbeats 2000000 in
theorem zo_bxp (w : World) (g : Nat) (m : Mo8) (s : ByteArray) (hz : (s.toList == []) = false) (h9 : (s.toList == [90]) = false) (h0 : 0 < s.size) (h3 : 3 < s.size) (h6 : (s.size : Int) = 6) (hc : (((s[3]).toNat : Nat) : Int) = 58) (hp : (((s[0]).toNat : Nat) : Int) = 43) (A B : ByteArray) (hA : s.extract 1 s.size = A) (hB : s.extract 4 s.size = B) (h mi : Int) (ba : ∀ w, Calls Tryz.prog 130 #[.string A, .int .i64 0, .int .i64 14] w fun e w' => e = .returned (.int .i64 h) ∧ Below w.heap.size w w') (bb : ∀ w, Calls Tryz.prog 130 #[.string B, .int .i64 0, .int .i64 59] w fun e w' => e = .returned (.int .i64 mi) ∧ Below w.heap.size w w') (g1 : 0 ≤ h) (g2 : 0 ≤ mi) (bad : h = 14) (bad2 : mi ≠ 0) (hr : MoAt w g m) :
    Calls Tryz.prog 92 #[.pointer (some ⟨g, 0, none⟩), .string s] w fun e w' => e = .returned (.bool false) ∧ MoAt w' g { m with z := true, o := m.o } ∧ Below g w w' := by
  have BA := Lib.hid ba
  have BB := Lib.hid bb
  clear ba bb
  have HR := Lib.hid hr
  have c7 := row_cell hr 7
  have c8 := row_cell hr 8
  have fz := hr.froz
  simp [Mo8.cells] at c7 c8
  clear hr
  have badb : (mi != 0) = true := bne_iff_ne.2 bad2
  have badc : (mi == 0) = false := beq_false_of_ne bad2
  go_enter Tryz.func92, Tryz.ntmps92
  go_upto_region 4 with fail
  have r1 : MoAt (w.setCell ⟨g, 7, none⟩ (.bool true)) g { m with z := true } := HR.out.set 7 (.bool true) rfl
  have b1 : Below g w (w.setCell ⟨g, 7, none⟩ (.bool true)) := bel_set (Below.refl _ _) 7 _
  generalize World.setCell w _ _ = w1 at r1 b1 ⊢
  have B1 := Lib.hid b1
  have R1 := Lib.hid r1
  clear b1 c7 c8 fz HR r1
  go_wp2_with (go_at_call 130; (first | ((with_reducible refine (BA.out _).mono ?_); rintro e w2 ⟨rfl, hb2⟩) | ((with_reducible refine (BB.out _).mono ?_); rintro e w3 ⟨rfl, hb3⟩)))
  have R3 := (R1.out.next hb2).next hb3
  have B3 : Below g w w3 := (B1.out.trans (hb2.mono (Nat.le_of_lt R1.out.lt))).trans (hb3.mono (Nat.le_of_lt (R1.out.next hb2).lt))
  clear hb2 hb3
  go_ret
  exact ⟨rfl, R3, B3⟩
set_option maxHeartbeats 2000000 in
theorem zo_okap (w : World) (g : Nat) (m : Mo8) (s : ByteArray) (hz : (s.toList == []) = false) (h9 : (s.toList == [90]) = false) (h0 : 0 < s.size) (h3 : 3 < s.size) (h6 : (s.size : Int) = 6) (hc : (((s[3]).toNat : Nat) : Int) = 58) (hp : (((s[0]).toNat : Nat) : Int) = 43) (A B : ByteArray) (hA : s.extract 1 s.size = A) (hB : s.extract 4 s.size = B) (h mi : Int) (ba : ∀ w, Calls Tryz.prog 130 #[.string A, .int .i64 0, .int .i64 14] w fun e w' => e = .returned (.int .i64 h) ∧ Below w.heap.size w w') (bb : ∀ w, Calls Tryz.prog 130 #[.string B, .int .i64 0, .int .i64 59] w fun e w' => e = .returned (.int .i64 mi) ∧ Below w.heap.size w w') (g1 : 0 ≤ h) (g2 : h ≤ 14) (g3 : 0 ≤ mi) (g4 : mi ≤ 59) (g5 : h ≠ 14) (hr : MoAt w g m) :
    Calls Tryz.prog 92 #[.pointer (some ⟨g, 0, none⟩), .string s] w fun e w' => e = .returned (.bool true) ∧ MoAt w' g { m with z := true, o := 60 * h + mi } ∧ Below g w w' := by
  have BA := Lib.hid ba
  have BB := Lib.hid bb
  clear ba bb
  have HR := Lib.hid hr
  have c7 := row_cell hr 7
  have c8 := row_cell hr 8
  have fz := hr.froz
  simp [Mo8.cells] at c7 c8
  clear hr
  have g5b : (h == 14) = false := beq_false_of_ne g5
  have k1 : IntKind.i64.wrap (60 * h) = 60 * h := by rw [IntKind.wrap_i64]; omega
  have k2 : IntKind.i64.wrap (60 * h + mi) = 60 * h + mi := by rw [IntKind.wrap_i64]; omega
  have k3 : IntKind.i64.wrap (-(60 * h + mi)) = -(60 * h + mi) := by rw [IntKind.wrap_i64]; omega
  go_enter Tryz.func92, Tryz.ntmps92
  go_upto_region 4 with fail
  have r1 : MoAt (w.setCell ⟨g, 7, none⟩ (.bool true)) g { m with z := true } := HR.out.set 7 (.bool true) rfl
  have b1 : Below g w (w.setCell ⟨g, 7, none⟩ (.bool true)) := bel_set (Below.refl _ _) 7 _
  generalize World.setCell w _ _ = w1 at r1 b1 ⊢
  have B1 := Lib.hid b1
  have R1 := Lib.hid r1
  clear b1 c7 c8 fz HR r1
  go_upto_region 12 with (go_at_call 130; (first | ((with_reducible refine (BA.out _).mono ?_); rintro e w2 ⟨rfl, hb2⟩) | ((with_reducible refine (BB.out _).mono ?_); rintro e w3 ⟨rfl, hb3⟩)))
  have R3 := (R1.out.next hb2).next hb3
  have B3 : Below g w w3 := (B1.out.trans (hb2.mono (Nat.le_of_lt R1.out.lt))).trans (hb3.mono (Nat.le_of_lt (R1.out.next hb2).lt))
  clear hb2 hb3
  have c8 := row_cell R3 8
  have fz := R3.froz
  simp [Mo8.cells] at c8
  have R4 : MoAt (w3.setCell ⟨g, 8, none⟩ (.int .i64 (60 * h + mi))) g { m with z := true, o := 60 * h + mi } := R3.set 8 _ rfl
  have B4 : Below g w (w3.setCell ⟨g, 8, none⟩ (.int .i64 (60 * h + mi))) := bel_set B3 8 _
  go_upto_region 13 with fail
  generalize World.setCell w3 _ _ = w4 at R4 B4 ⊢
  clear c8 fz R3 B3
  go_wp2_with fail
  go_ret
  exact ⟨rfl, R4, B4⟩
set_option maxHeartbeats 2000000 in
theorem zo_okbp (w : World) (g : Nat) (m : Mo8) (s : ByteArray) (hz : (s.toList == []) = false) (h9 : (s.toList == [90]) = false) (h0 : 0 < s.size) (h3 : 3 < s.size) (h6 : (s.size : Int) = 6) (hc : (((s[3]).toNat : Nat) : Int) = 58) (hp : (((s[0]).toNat : Nat) : Int) = 43) (A B : ByteArray) (hA : s.extract 1 s.size = A) (hB : s.extract 4 s.size = B) (ba : ∀ w, Calls Tryz.prog 130 #[.string A, .int .i64 0, .int .i64 14] w fun e w' => e = .returned (.int .i64 14) ∧ Below w.heap.size w w') (bb : ∀ w, Calls Tryz.prog 130 #[.string B, .int .i64 0, .int .i64 59] w fun e w' => e = .returned (.int .i64 0) ∧ Below w.heap.size w w')  (hr : MoAt w g m) :
    Calls Tryz.prog 92 #[.pointer (some ⟨g, 0, none⟩), .string s] w fun e w' => e = .returned (.bool true) ∧ MoAt w' g { m with z := true, o := 840 } ∧ Below g w w' := by
  have BA := Lib.hid ba
  have BB := Lib.hid bb
  clear ba bb
  have HR := Lib.hid hr
  have c7 := row_cell hr 7
  have c8 := row_cell hr 8
  have fz := hr.froz
  simp [Mo8.cells] at c7 c8
  clear hr
  go_enter Tryz.func92, Tryz.ntmps92
  go_upto_region 4 with fail
  have r1 : MoAt (w.setCell ⟨g, 7, none⟩ (.bool true)) g { m with z := true } := HR.out.set 7 (.bool true) rfl
  have b1 : Below g w (w.setCell ⟨g, 7, none⟩ (.bool true)) := bel_set (Below.refl _ _) 7 _
  generalize World.setCell w _ _ = w1 at r1 b1 ⊢
  have B1 := Lib.hid b1
  have R1 := Lib.hid r1
  clear b1 c7 c8 fz HR r1
  go_upto_region 12 with (go_at_call 130; (first | ((with_reducible refine (BA.out _).mono ?_); rintro e w2 ⟨rfl, hb2⟩) | ((with_reducible refine (BB.out _).mono ?_); rintro e w3 ⟨rfl, hb3⟩)))
  have R3 := (R1.out.next hb2).next hb3
  have B3 : Below g w w3 := (B1.out.trans (hb2.mono (Nat.le_of_lt R1.out.lt))).trans (hb3.mono (Nat.le_of_lt (R1.out.next hb2).lt))
  clear hb2 hb3
  have c8 := row_cell R3 8
  have fz := R3.froz
  simp [Mo8.cells] at c8
  have R4 : MoAt (w3.setCell ⟨g, 8, none⟩ (.int .i64 (840))) g { m with z := true, o := 840 } := R3.set 8 _ rfl
  have B4 : Below g w (w3.setCell ⟨g, 8, none⟩ (.int .i64 (840))) := bel_set B3 8 _
  go_upto_region 13 with fail
  generalize World.setCell w3 _ _ = w4 at R4 B4 ⊢
  clear c8 fz R3 B3
  go_wp2_with fail
  go_ret
  exact ⟨rfl, R4, B4⟩
set_option maxHeartbeats 2000000 in
theorem zo_bhm (w : World) (g : Nat) (m : Mo8) (s : ByteArray) (hz : (s.toList == []) = false) (h9 : (s.toList == [90]) = false) (h0 : 0 < s.size) (h3 : 3 < s.size) (h6 : (s.size : Int) = 6) (hc : (((s[3]).toNat : Nat) : Int) = 58) (hp : (((s[0]).toNat : Nat) : Int) = 45) (A B : ByteArray) (hA : s.extract 1 s.size = A) (hB : s.extract 4 s.size = B) (h mi : Int) (ba : ∀ w, Calls Tryz.prog 130 #[.string A, .int .i64 0, .int .i64 14] w fun e w' => e = .returned (.int .i64 h) ∧ Below w.heap.size w w') (bb : ∀ w, Calls Tryz.prog 130 #[.string B, .int .i64 0, .int .i64 59] w fun e w' => e = .returned (.int .i64 mi) ∧ Below w.heap.size w w') (bad : h < 0) (hr : MoAt w g m) :
    Calls Tryz.prog 92 #[.pointer (some ⟨g, 0, none⟩), .string s] w fun e w' => e = .returned (.bool false) ∧ MoAt w' g { m with z := true, o := m.o } ∧ Below g w w' := by
  have BA := Lib.hid ba
  have BB := Lib.hid bb
  clear ba bb
  have HR := Lib.hid hr
  have c7 := row_cell hr 7
  have c8 := row_cell hr 8
  have fz := hr.froz
  simp [Mo8.cells] at c7 c8
  clear hr
  go_enter Tryz.func92, Tryz.ntmps92
  go_upto_region 4 with fail
  have r1 : MoAt (w.setCell ⟨g, 7, none⟩ (.bool true)) g { m with z := true } := HR.out.set 7 (.bool true) rfl
  have b1 : Below g w (w.setCell ⟨g, 7, none⟩ (.bool true)) := bel_set (Below.refl _ _) 7 _
  generalize World.setCell w _ _ = w1 at r1 b1 ⊢
  have B1 := Lib.hid b1
  have R1 := Lib.hid r1
  clear b1 c7 c8 fz HR r1
  go_wp2_with (go_at_call 130; (first | ((with_reducible refine (BA.out _).mono ?_); rintro e w2 ⟨rfl, hb2⟩) | ((with_reducible refine (BB.out _).mono ?_); rintro e w3 ⟨rfl, hb3⟩)))
  have R3 := (R1.out.next hb2).next hb3
  have B3 : Below g w w3 := (B1.out.trans (hb2.mono (Nat.le_of_lt R1.out.lt))).trans (hb3.mono (Nat.le_of_lt (R1.out.next hb2).lt))
  clear hb2 hb3
  go_ret
  exact ⟨rfl, R3, B3⟩
set_option maxHeartbeats 2000000 in
theorem zo_bmm (w : World) (g : Nat) (m : Mo8) (s : ByteArray) (hz : (s.toList == []) = false) (h9 : (s.toList == [90]) = false) (h0 : 0 < s.size) (h3 : 3 < s.size) (h6 : (s.size : Int) = 6) (hc : (((s[3]).toNat : Nat) : Int) = 58) (hp : (((s[0]).toNat : Nat) : Int) = 45) (A B : ByteArray) (hA : s.extract 1 s.size = A) (hB : s.extract 4 s.size = B) (h mi : Int) (ba : ∀ w, Calls Tryz.prog 130 #[.string A, .int .i64 0, .int .i64 14] w fun e w' => e = .returned (.int .i64 h) ∧ Below w.heap.size w w') (bb : ∀ w, Calls Tryz.prog 130 #[.string B, .int .i64 0, .int .i64 59] w fun e w' => e = .returned (.int .i64 mi) ∧ Below w.heap.size w w') (g1 : 0 ≤ h) (bad : mi < 0) (hr : MoAt w g m) :
    Calls Tryz.prog 92 #[.pointer (some ⟨g, 0, none⟩), .string s] w fun e w' => e = .returned (.bool false) ∧ MoAt w' g { m with z := true, o := m.o } ∧ Below g w w' := by
  have BA := Lib.hid ba
  have BB := Lib.hid bb
  clear ba bb
  have HR := Lib.hid hr
  have c7 := row_cell hr 7
  have c8 := row_cell hr 8
  have fz := hr.froz
  simp [Mo8.cells] at c7 c8
  clear hr
  go_enter Tryz.func92, Tryz.ntmps92
  go_upto_region 4 with fail
  have r1 : MoAt (w.setCell ⟨g, 7, none⟩ (.bool true)) g { m with z := true } := HR.out.set 7 (.bool true) rfl
  have b1 : Below g w (w.setCell ⟨g, 7, none⟩ (.bool true)) := bel_set (Below.refl _ _) 7 _
  generalize World.setCell w _ _ = w1 at r1 b1 ⊢
  have B1 := Lib.hid b1
  have R1 := Lib.hid r1
  clear b1 c7 c8 fz HR r1
  go_wp2_with (go_at_call 130; (first | ((with_reducible refine (BA.out _).mono ?_); rintro e w2 ⟨rfl, hb2⟩) | ((with_reducible refine (BB.out _).mono ?_); rintro e w3 ⟨rfl, hb3⟩)))
  have R3 := (R1.out.next hb2).next hb3
  have B3 : Below g w w3 := (B1.out.trans (hb2.mono (Nat.le_of_lt R1.out.lt))).trans (hb3.mono (Nat.le_of_lt (R1.out.next hb2).lt))
  clear hb2 hb3
  go_ret
  exact ⟨rfl, R3, B3⟩
set_option maxHeartbeats 2000000 in
theorem zo_bxm (w : World) (g : Nat) (m : Mo8) (s : ByteArray) (hz : (s.toList == []) = false) (h9 : (s.toList == [90]) = false) (h0 : 0 < s.size) (h3 : 3 < s.size) (h6 : (s.size : Int) = 6) (hc : (((s[3]).toNat : Nat) : Int) = 58) (hp : (((s[0]).toNat : Nat) : Int) = 45) (A B : ByteArray) (hA : s.extract 1 s.size = A) (hB : s.extract 4 s.size = B) (h mi : Int) (ba : ∀ w, Calls Tryz.prog 130 #[.string A, .int .i64 0, .int .i64 14] w fun e w' => e = .returned (.int .i64 h) ∧ Below w.heap.size w w') (bb : ∀ w, Calls Tryz.prog 130 #[.string B, .int .i64 0, .int .i64 59] w fun e w' => e = .returned (.int .i64 mi) ∧ Below w.heap.size w w') (g1 : 0 ≤ h) (g2 : 0 ≤ mi) (bad : h = 14) (bad2 : mi ≠ 0) (hr : MoAt w g m) :
    Calls Tryz.prog 92 #[.pointer (some ⟨g, 0, none⟩), .string s] w fun e w' => e = .returned (.bool false) ∧ MoAt w' g { m with z := true, o := m.o } ∧ Below g w w' := by
  have BA := Lib.hid ba
  have BB := Lib.hid bb
  clear ba bb
  have HR := Lib.hid hr
  have c7 := row_cell hr 7
  have c8 := row_cell hr 8
  have fz := hr.froz
  simp [Mo8.cells] at c7 c8
  clear hr
  have badb : (mi != 0) = true := bne_iff_ne.2 bad2
  have badc : (mi == 0) = false := beq_false_of_ne bad2
  go_enter Tryz.func92, Tryz.ntmps92
  go_upto_region 4 with fail
  have r1 : MoAt (w.setCell ⟨g, 7, none⟩ (.bool true)) g { m with z := true } := HR.out.set 7 (.bool true) rfl
  have b1 : Below g w (w.setCell ⟨g, 7, none⟩ (.bool true)) := bel_set (Below.refl _ _) 7 _
  generalize World.setCell w _ _ = w1 at r1 b1 ⊢
  have B1 := Lib.hid b1
  have R1 := Lib.hid r1
  clear b1 c7 c8 fz HR r1
  go_wp2_with (go_at_call 130; (first | ((with_reducible refine (BA.out _).mono ?_); rintro e w2 ⟨rfl, hb2⟩) | ((with_reducible refine (BB.out _).mono ?_); rintro e w3 ⟨rfl, hb3⟩)))
  have R3 := (R1.out.next hb2).next hb3
  have B3 : Below g w w3 := (B1.out.trans (hb2.mono (Nat.le_of_lt R1.out.lt))).trans (hb3.mono (Nat.le_of_lt (R1.out.next hb2).lt))
  clear hb2 hb3
  go_ret
  exact ⟨rfl, R3, B3⟩
set_option maxHeartbeats 2000000 in
theorem zo_okam (w : World) (g : Nat) (m : Mo8) (s : ByteArray) (hz : (s.toList == []) = false) (h9 : (s.toList == [90]) = false) (h0 : 0 < s.size) (h3 : 3 < s.size) (h6 : (s.size : Int) = 6) (hc : (((s[3]).toNat : Nat) : Int) = 58) (hp : (((s[0]).toNat : Nat) : Int) = 45) (A B : ByteArray) (hA : s.extract 1 s.size = A) (hB : s.extract 4 s.size = B) (h mi : Int) (ba : ∀ w, Calls Tryz.prog 130 #[.string A, .int .i64 0, .int .i64 14] w fun e w' => e = .returned (.int .i64 h) ∧ Below w.heap.size w w') (bb : ∀ w, Calls Tryz.prog 130 #[.string B, .int .i64 0, .int .i64 59] w fun e w' => e = .returned (.int .i64 mi) ∧ Below w.heap.size w w') (g1 : 0 ≤ h) (g2 : h ≤ 14) (g3 : 0 ≤ mi) (g4 : mi ≤ 59) (g5 : h ≠ 14) (hr : MoAt w g m) :
    Calls Tryz.prog 92 #[.pointer (some ⟨g, 0, none⟩), .string s] w fun e w' => e = .returned (.bool true) ∧ MoAt w' g { m with z := true, o := -(60 * h + mi) } ∧ Below g w w' := by
  have BA := Lib.hid ba
  have BB := Lib.hid bb
  clear ba bb
  have HR := Lib.hid hr
  have c7 := row_cell hr 7
  have c8 := row_cell hr 8
  have fz := hr.froz
  simp [Mo8.cells] at c7 c8
  clear hr
  have g5b : (h == 14) = false := beq_false_of_ne g5
  have k1 : IntKind.i64.wrap (60 * h) = 60 * h := by rw [IntKind.wrap_i64]; omega
  have k2 : IntKind.i64.wrap (60 * h + mi) = 60 * h + mi := by rw [IntKind.wrap_i64]; omega
  have k3 : IntKind.i64.wrap (-(60 * h + mi)) = -(60 * h + mi) := by rw [IntKind.wrap_i64]; omega
  go_enter Tryz.func92, Tryz.ntmps92
  go_upto_region 4 with fail
  have r1 : MoAt (w.setCell ⟨g, 7, none⟩ (.bool true)) g { m with z := true } := HR.out.set 7 (.bool true) rfl
  have b1 : Below g w (w.setCell ⟨g, 7, none⟩ (.bool true)) := bel_set (Below.refl _ _) 7 _
  generalize World.setCell w _ _ = w1 at r1 b1 ⊢
  have B1 := Lib.hid b1
  have R1 := Lib.hid r1
  clear b1 c7 c8 fz HR r1
  go_upto_region 12 with (go_at_call 130; (first | ((with_reducible refine (BA.out _).mono ?_); rintro e w2 ⟨rfl, hb2⟩) | ((with_reducible refine (BB.out _).mono ?_); rintro e w3 ⟨rfl, hb3⟩)))
  have R3 := (R1.out.next hb2).next hb3
  have B3 : Below g w w3 := (B1.out.trans (hb2.mono (Nat.le_of_lt R1.out.lt))).trans (hb3.mono (Nat.le_of_lt (R1.out.next hb2).lt))
  clear hb2 hb3
  have c8 := row_cell R3 8
  have fz := R3.froz
  simp [Mo8.cells] at c8
  have R4 : MoAt (w3.setCell ⟨g, 8, none⟩ (.int .i64 (60 * h + mi))) g { m with z := true, o := 60 * h + mi } := R3.set 8 _ rfl
  have B4 : Below g w (w3.setCell ⟨g, 8, none⟩ (.int .i64 (60 * h + mi))) := bel_set B3 8 _
  go_upto_region 13 with fail
  generalize World.setCell w3 _ _ = w4 at R4 B4 ⊢
  clear c8 fz R3 B3
  have c8 := row_cell R4 8
  have fz := R4.froz
  simp [Mo8.cells] at c8
  have R5 : MoAt (w4.setCell ⟨g, 8, none⟩ (.int .i64 (-(60 * h + mi)))) g { m with z := true, o := -(60 * h + mi) } := R4.set 8 _ rfl
  have B5 : Below g w (w4.setCell ⟨g, 8, none⟩ (.int .i64 (-(60 * h + mi)))) := bel_set B4 8 _
  go_wp2_with fail
  go_ret
  exact ⟨rfl, R5, B5⟩
set_option maxHeartbeats 2000000 in
theorem zo_okbm (w : World) (g : Nat) (m : Mo8) (s : ByteArray) (hz : (s.toList == []) = false) (h9 : (s.toList == [90]) = false) (h0 : 0 < s.size) (h3 : 3 < s.size) (h6 : (s.size : Int) = 6) (hc : (((s[3]).toNat : Nat) : Int) = 58) (hp : (((s[0]).toNat : Nat) : Int) = 45) (A B : ByteArray) (hA : s.extract 1 s.size = A) (hB : s.extract 4 s.size = B) (ba : ∀ w, Calls Tryz.prog 130 #[.string A, .int .i64 0, .int .i64 14] w fun e w' => e = .returned (.int .i64 14) ∧ Below w.heap.size w w') (bb : ∀ w, Calls Tryz.prog 130 #[.string B, .int .i64 0, .int .i64 59] w fun e w' => e = .returned (.int .i64 0) ∧ Below w.heap.size w w')  (hr : MoAt w g m) :
    Calls Tryz.prog 92 #[.pointer (some ⟨g, 0, none⟩), .string s] w fun e w' => e = .returned (.bool true) ∧ MoAt w' g { m with z := true, o := -840 } ∧ Below g w w' := by
  have BA := Lib.hid ba
  have BB := Lib.hid bb
  clear ba bb
  have HR := Lib.hid hr
  have c7 := row_cell hr 7
  have c8 := row_cell hr 8
  have fz := hr.froz
  simp [Mo8.cells] at c7 c8
  clear hr
  go_enter Tryz.func92, Tryz.ntmps92
  go_upto_region 4 with fail
  have r1 : MoAt (w.setCell ⟨g, 7, none⟩ (.bool true)) g { m with z := true } := HR.out.set 7 (.bool true) rfl
  have b1 : Below g w (w.setCell ⟨g, 7, none⟩ (.bool true)) := bel_set (Below.refl _ _) 7 _
  generalize World.setCell w _ _ = w1 at r1 b1 ⊢
  have B1 := Lib.hid b1
  have R1 := Lib.hid r1
  clear b1 c7 c8 fz HR r1
  go_upto_region 12 with (go_at_call 130; (first | ((with_reducible refine (BA.out _).mono ?_); rintro e w2 ⟨rfl, hb2⟩) | ((with_reducible refine (BB.out _).mono ?_); rintro e w3 ⟨rfl, hb3⟩)))
  have R3 := (R1.out.next hb2).next hb3
  have B3 : Below g w w3 := (B1.out.trans (hb2.mono (Nat.le_of_lt R1.out.lt))).trans (hb3.mono (Nat.le_of_lt (R1.out.next hb2).lt))
  clear hb2 hb3
  have c8 := row_cell R3 8
  have fz := R3.froz
  simp [Mo8.cells] at c8
  have R4 : MoAt (w3.setCell ⟨g, 8, none⟩ (.int .i64 (840))) g { m with z := true, o := 840 } := R3.set 8 _ rfl
  have B4 : Below g w (w3.setCell ⟨g, 8, none⟩ (.int .i64 (840))) := bel_set B3 8 _
  go_upto_region 13 with fail
  generalize World.setCell w3 _ _ = w4 at R4 B4 ⊢
  clear c8 fz R3 B3
  have c8 := row_cell R4 8
  have fz := R4.froz
  simp [Mo8.cells] at c8
  have R5 : MoAt (w4.setCell ⟨g, 8, none⟩ (.int .i64 (-840))) g { m with z := true, o := -840 } := R4.set 8 _ rfl
  have B5 : Below g w (w4.setCell ⟨g, 8, none⟩ (.int .i64 (-840))) := bel_set B4 8 _
  go_wp2_with fail
  go_ret
  exact ⟨rfl, R5, B5⟩
end Go.Proofs.YtlhcejbimlilaaaGreatDoor
