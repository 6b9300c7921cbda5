/- VdN VdB, laid as one. -/
import Derived.Test.YtlhcejbimlilaaaGreatDoorVaG
import Derived.Test.YtlhcejbimlilaaaGreatDoorVaJ
import Derived.Test.YtlhcejbimlilaaaGreatDoorVaC
import Derived.Test.YtlhcejbimlilaaaGreatDoorVcB
import Derived.Test.YtlhcejbimlilaaaGreatDoorVaB
set_option linter.unusedVariables false
set_option linter.unusedSimpArgs false
/- The document's moment in memory; its zone (written by gen_vdn.py). -/
namespace Go.Proofs.YtlhcejbimlilaaaGreatDoor
open Go.RowKit Go.Tk
structure Mo8 where
  y : Int
  mo : Int
  d : Int
  h : Int
  mi : Int
  s : Int
  f : ByteArray
  z : Bool
  o : Int
def Mo8.cells (m : Mo8) : Array Value := #[.int .i64 m.y, .int .i64 m.mo, .int .i64 m.d, .int .i64 m.h, .int .i64 m.mi, .int .i64 m.s, .string m.f, .bool m.z, .int .i64 m.o]
/-- A moment lies there. -/
def MoAt (w : World) (g : Nat) (m : Mo8) : Prop := w.heap[g]? = some (.cells m.cells 69 (0, 0))
theorem MoAt.lt {w : World} {g : Nat} {m : Mo8} (h : MoAt w g m) : g < w.heap.size := (Array.getElem?_eq_some_iff.1 h).1
theorem MoAt.next {w x : World} {g : Nat} {m : Mo8} (h : MoAt w g m) (hb : Below w.heap.size w x) : MoAt x g m := (hb.block g h.lt).trans h
theorem MoAt.froz {w : World} {g : Nat} {m : Mo8} (h : MoAt w g m) : ∀ i, w.frozen? ⟨g, i, none⟩ = false := fun i => frozen_of_row _ _ _ _ _ h
theorem MoAt.set {w : World} {g : Nat} {m m2 : Mo8} (h : MoAt w g m) (i : Nat) (v : Value) (hc : m.cells.setIfInBounds i v = m2.cells) : MoAt (w.setCell ⟨g, i, none⟩ v) g m2 := by
  unfold MoAt at h ⊢
  have := set_row (i := i) (v := v) h hc
  exact this
theorem bel_set {g : Nat} {w x : World} (h : Below g w x) (i : Nat) (v : Value) : Below g w (x.setCell ⟨g, i, none⟩ v) := h.setCell (p := ⟨g, i, none⟩) (Nat.le_refl _) v
set_option maxHeartbeats 2000000 in
theorem zo_nil (w : World) (g : Nat) (m : Mo8) (s : ByteArray) (hz : (s.toList == []) = true) (hr : MoAt w g m) :
    Calls Tryz.prog 92 #[.pointer (some ⟨g, 0, none⟩), .string s] w fun e w' => e = .returned (.bool true) ∧ w = w' := by
  have HR := Lib.hid hr
  have c7 := row_cell hr 7
  have c8 := row_cell hr 8
  have fz := hr.froz
  simp [Mo8.cells] at c7 c8
  clear hr
  clear c7 c8 fz HR
  go_enter Tryz.func92, Tryz.ntmps92
  go_wp2_with fail
  go_ret
  exact ⟨rfl, rfl⟩
set_option maxHeartbeats 2000000 in
theorem zo_Z (w : World) (g : Nat) (m : Mo8) (s : ByteArray) (hz : (s.toList == []) = false) (h9 : (s.toList == [90]) = true) (hr : MoAt w g m) :
    Calls Tryz.prog 92 #[.pointer (some ⟨g, 0, none⟩), .string s] w fun e w' => e = .returned (.bool true) ∧ MoAt w' g { m with z := true, o := m.o } ∧ Below g w w' := by
  have HR := Lib.hid hr
  have c7 := row_cell hr 7
  have c8 := row_cell hr 8
  have fz := hr.froz
  simp [Mo8.cells] at c7 c8
  clear hr
  go_enter Tryz.func92, Tryz.ntmps92
  go_upto_region 4 with fail
  have r1 : MoAt (w.setCell ⟨g, 7, none⟩ (.bool true)) g { m with z := true } := HR.out.set 7 (.bool true) rfl
  have b1 : Below g w (w.setCell ⟨g, 7, none⟩ (.bool true)) := bel_set (Below.refl _ _) 7 _
  generalize World.setCell w _ _ = w1 at r1 b1 ⊢
  have B1 := Lib.hid b1
  have R1 := Lib.hid r1
  clear b1 c7 c8 fz HR r1
  go_wp2_with fail
  go_ret
  exact ⟨rfl, R1.out, B1.out⟩
set_option maxHeartbeats 2000000 in
theorem zo_len (w : World) (g : Nat) (m : Mo8) (s : ByteArray) (hz : (s.toList == []) = false) (h9 : (s.toList == [90]) = false) (hl : (s.size : Int) ≠ 6) (hr : MoAt w g m) :
    Calls Tryz.prog 92 #[.pointer (some ⟨g, 0, none⟩), .string s] w fun e w' => e = .returned (.bool false) ∧ MoAt w' g { m with z := true, o := m.o } ∧ Below g w w' := by
  have HR := Lib.hid hr
  have c7 := row_cell hr 7
  have c8 := row_cell hr 8
  have fz := hr.froz
  simp [Mo8.cells] at c7 c8
  clear hr
  have hlb : ((s.size : Int) != 6) = true := bne_iff_ne.2 hl
  go_enter Tryz.func92, Tryz.ntmps92
  go_upto_region 4 with fail
  have r1 : MoAt (w.setCell ⟨g, 7, none⟩ (.bool true)) g { m with z := true } := HR.out.set 7 (.bool true) rfl
  have b1 : Below g w (w.setCell ⟨g, 7, none⟩ (.bool true)) := bel_set (Below.refl _ _) 7 _
  generalize World.setCell w _ _ = w1 at r1 b1 ⊢
  have B1 := Lib.hid b1
  have R1 := Lib.hid r1
  clear b1 c7 c8 fz HR r1
  go_wp2_with fail
  go_ret
  exact ⟨rfl, R1.out, B1.out⟩
set_option maxHeartbeats 2000000 in
theorem zo_col (w : World) (g : Nat) (m : Mo8) (s : ByteArray) (hz : (s.toList == []) = false) (h9 : (s.toList == [90]) = false) (h0 : 0 < s.size) (h3 : 3 < s.size) (h6 : (s.size : Int) = 6) (hc : (((s[3]).toNat : Nat) : Int) ≠ 58) (hr : MoAt w g m) :
    Calls Tryz.prog 92 #[.pointer (some ⟨g, 0, none⟩), .string s] w fun e w' => e = .returned (.bool false) ∧ MoAt w' g { m with z := true, o := m.o } ∧ Below g w w' := by
  have HR := Lib.hid hr
  have c7 := row_cell hr 7
  have c8 := row_cell hr 8
  have fz := hr.froz
  simp [Mo8.cells] at c7 c8
  clear hr
  have hcb : ((((s[3]).toNat : Nat) : Int) != 58) = true := bne_iff_ne.2 hc
  go_enter Tryz.func92, Tryz.ntmps92
  go_upto_region 4 with fail
  have r1 : MoAt (w.setCell ⟨g, 7, none⟩ (.bool true)) g { m with z := true } := HR.out.set 7 (.bool true) rfl
  have b1 : Below g w (w.setCell ⟨g, 7, none⟩ (.bool true)) := bel_set (Below.refl _ _) 7 _
  generalize World.setCell w _ _ = w1 at r1 b1 ⊢
  have B1 := Lib.hid b1
  have R1 := Lib.hid r1
  clear b1 c7 c8 fz HR r1
  go_wp2_with fail
  go_ret
  exact ⟨rfl, R1.out, B1.out⟩
set_option maxHeartbeats 2000000 in
theorem zo_sgn (w : World) (g : Nat) (m : Mo8) (s : ByteArray) (hz : (s.toList == []) = false) (h9 : (s.toList == [90]) = false) (h0 : 0 < s.size) (h3 : 3 < s.size) (h6 : (s.size : Int) = 6) (hc : (((s[3]).toNat : Nat) : Int) = 58) (hp : (((s[0]).toNat : Nat) : Int) ≠ 43) (hm : (((s[0]).toNat : Nat) : Int) ≠ 45) (hr : MoAt w g m) :
    Calls Tryz.prog 92 #[.pointer (some ⟨g, 0, none⟩), .string s] w fun e w' => e = .returned (.bool false) ∧ MoAt w' g { m with z := true, o := m.o } ∧ Below g w w' := by
  have HR := Lib.hid hr
  have c7 := row_cell hr 7
  have c8 := row_cell hr 8
  have fz := hr.froz
  simp [Mo8.cells] at c7 c8
  clear hr
  have hpb : ((((s[0]).toNat : Nat) : Int) != 43) = true := bne_iff_ne.2 hp
  have hmb : ((((s[0]).toNat : Nat) : Int) != 45) = true := bne_iff_ne.2 hm
  go_enter Tryz.func92, Tryz.ntmps92
  go_upto_region 4 with fail
  have r1 : MoAt (w.setCell ⟨g, 7, none⟩ (.bool true)) g { m with z := true } := HR.out.set 7 (.bool true) rfl
  have b1 : Below g w (w.setCell ⟨g, 7, none⟩ (.bool true)) := bel_set (Below.refl _ _) 7 _
  generalize World.setCell w _ _ = w1 at r1 b1 ⊢
  have B1 := Lib.hid b1
  have R1 := Lib.hid r1
  clear b1 c7 c8 fz HR r1
  go_wp2_with fail
  go_ret
  exact ⟨rfl, R1.out, B1.out⟩
set_option maxHeartbeats 2000000 in
theorem zo_bhp (w : World) (g : Nat) (m : Mo8) (s : ByteArray) (hz : (s.toList == []) = false) (h9 : (s.toList == [90]) = false) (h0 : 0 < s.size) (h3 : 3 < s.size) (h6 : (s.size : Int) = 6) (hc : (((s[3]).toNat : Nat) : Int) = 58) (hp : (((s[0]).toNat : Nat) : Int) = 43) (A B : ByteArray) (hA : s.extract 1 s.size = A) (hB : s.extract 4 s.size = B) (h mi : Int) (ba : ∀ w, Calls Tryz.prog 130 #[.string A, .int .i64 0, .int .i64 14] w fun e w' => e = .returned (.int .i64 h) ∧ Below w.heap.size w w') (bb : ∀ w, Calls Tryz.prog 130 #[.string B, .int .i64 0, .int .i64 59] w fun e w' => e = .returned (.int .i64 mi) ∧ Below w.heap.size w w') (bad : h < 0) (hr : MoAt w g m) :
    Calls Tryz.prog 92 #[.pointer (some ⟨g, 0, none⟩), .string s] w fun e w' => e = .returned (.bool false) ∧ MoAt w' g { m with z := true, o := m.o } ∧ Below g w w' := by
  have BA := Lib.hid ba
  have BB := Lib.hid bb
  clear ba bb
  have HR := Lib.hid hr
  have c7 := row_cell hr 7
  have c8 := row_cell hr 8
  have fz := hr.froz
  simp [Mo8.cells] at c7 c8
  clear hr
  go_enter Tryz.func92, Tryz.ntmps92
  go_upto_region 4 with fail
  have r1 : MoAt (w.setCell ⟨g, 7, none⟩ (.bool true)) g { m with z := true } := HR.out.set 7 (.bool true) rfl
  have b1 : Below g w (w.setCell ⟨g, 7, none⟩ (.bool true)) := bel_set (Below.refl _ _) 7 _
  generalize World.setCell w _ _ = w1 at r1 b1 ⊢
  have B1 := Lib.hid b1
  have R1 := Lib.hid r1
  clear b1 c7 c8 fz HR r1
  go_wp2_with (go_at_call 130; (first | ((with_reducible refine (BA.out _).mono ?_); rintro e w2 ⟨rfl, hb2⟩) | ((with_reducible refine (BB.out _).mono ?_); rintro e w3 ⟨rfl, hb3⟩)))
  have R3 := (R1.out.next hb2).next hb3
  have B3 : Below g w w3 := (B1.out.trans (hb2.mono (Nat.le_of_lt R1.out.lt))).trans (hb3.mono (Nat.le_of_lt (R1.out.next hb2).lt))
  clear hb2 hb3
  go_ret
  exact ⟨rfl, R3, B3⟩
set_option maxHeartbeats 2000000 in
theorem zo_bmp (w : World) (g : Nat) (m : Mo8) (s : ByteArray) (hz : (s.toList == []) = false) (h9 : (s.toList == [90]) = false) (h0 : 0 < s.size) (h3 : 3 < s.size) (h6 : (s.size : Int) = 6) (hc : (((s[3]).toNat : Nat) : Int) = 58) (hp : (((s[0]).toNat : Nat) : Int) = 43) (A B : ByteArray) (hA : s.extract 1 s.size = A) (hB : s.extract 4 s.size = B) (h mi : Int) (ba : ∀ w, Calls Tryz.prog 130 #[.string A, .int .i64 0, .int .i64 14] w fun e w' => e = .returned (.int .i64 h) ∧ Below w.heap.size w w') (bb : ∀ w, Calls Tryz.prog 130 #[.string B, .int .i64 0, .int .i64 59] w fun e w' => e = .returned (.int .i64 mi) ∧ Below w.heap.size w w') (g1 : 0 ≤ h) (bad : mi < 0) (hr : MoAt w g m) :
    Calls Tryz.prog 92 #[.pointer (some ⟨g, 0, none⟩), .string s] w fun e w' => e = .returned (.bool false) ∧ MoAt w' g { m with z := true, o := m.o } ∧ Below g w w' := by
  have BA := Lib.hid ba
  have BB := Lib.hid bb
  clear ba bb
  have HR := Lib.hid hr
  have c7 := row_cell hr 7
  have c8 := row_cell hr 8
  have fz := hr.froz
  simp [Mo8.cells] at c7 c8
  clear hr
  go_enter Tryz.func92, Tryz.ntmps92
  go_upto_region 4 with fail
  have r1 : MoAt (w.setCell ⟨g, 7, none⟩ (.bool true)) g { m with z := true } := HR.out.set 7 (.bool true) rfl
  have b1 : Below g w (w.setCell ⟨g, 7, none⟩ (.bool true)) := bel_set (Below.refl _ _) 7 _
  generalize World.setCell w _ _ = w1 at r1 b1 ⊢
  have B1 := Lib.hid b1
  have R1 := Lib.hid r1
  clear b1 c7 c8 fz HR r1
  go_wp2_with (go_at_call 130; (first | ((with_reducible refine (BA.out _).mono ?_); rintro e w2 ⟨rfl, hb2⟩) | ((with_reducible refine (BB.out _).mono ?_); rintro e w3 ⟨rfl, hb3⟩)))
  have R3 := (R1.out.next hb2).next hb3
  have B3 : Below g w w3 := (B1.out.trans (hb2.mono (Nat.le_of_lt R1.out.lt))).trans (hb3.mono (Nat.le_of_lt (R1.out.next hb2).lt))
  clear hb2 hb3
  go_ret
  exact ⟨rfl, R3, B3⟩
set_option maxHeartbeats 2000000 in
theorem zo_bxp (w : World) (g : Nat) (m : Mo8) (s : ByteArray) (hz : (s.toList == []) = false) (h9 : (s.toList == [90]) = false) (h0 : 0 < s.size) (h3 : 3 < s.size) (h6 : (s.size : Int) = 6) (hc : (((s[3]).toNat : Nat) : Int) = 58) (hp : (((s[0]).toNat : Nat) : Int) = 43) (A B : ByteArray) (hA : s.extract 1 s.size = A) (hB : s.extract 4 s.size = B) (h mi : Int) (ba : ∀ w, Calls Tryz.prog 130 #[.string A, .int .i64 0, .int .i64 14] w fun e w' => e = .returned (.int .i64 h) ∧ Below w.heap.size w w') (bb : ∀ w, Calls Tryz.prog 130 #[.string B, .int .i64 0, .int .i64 59] w fun e w' => e = .returned (.int .i64 mi) ∧ Below w.heap.size w w') (g1 : 0 ≤ h) (g2 : 0 ≤ mi) (bad : h = 14) (bad2 : mi ≠ 0) (hr : MoAt w g m) :
    Calls Tryz.prog 92 #[.pointer (some ⟨g, 0, none⟩), .string s] w fun e w' => e = .returned (.bool false) ∧ MoAt w' g { m with z := true, o := m.o } ∧ Below g w w' := by
  have BA := Lib.hid ba
  have BB := Lib.hid bb
  clear ba bb
  have HR := Lib.hid hr
  have c7 := row_cell hr 7
  have c8 := row_cell hr 8
  have fz := hr.froz
  simp [Mo8.cells] at c7 c8
  clear hr
  have badb : (mi != 0) = true := bne_iff_ne.2 bad2
  have badc : (mi == 0) = false := beq_false_of_ne bad2
  go_enter Tryz.func92, Tryz.ntmps92
  go_upto_region 4 with fail
  have r1 : MoAt (w.setCell ⟨g, 7, none⟩ (.bool true)) g { m with z := true } := HR.out.set 7 (.bool true) rfl
  have b1 : Below g w (w.setCell ⟨g, 7, none⟩ (.bool true)) := bel_set (Below.refl _ _) 7 _
  generalize World.setCell w _ _ = w1 at r1 b1 ⊢
  have B1 := Lib.hid b1
  have R1 := Lib.hid r1
  clear b1 c7 c8 fz HR r1
  go_wp2_with (go_at_call 130; (first | ((with_reducible refine (BA.out _).mono ?_); rintro e w2 ⟨rfl, hb2⟩) | ((with_reducible refine (BB.out _).mono ?_); rintro e w3 ⟨rfl, hb3⟩)))
  have R3 := (R1.out.next hb2).next hb3
  have B3 : Below g w w3 := (B1.out.trans (hb2.mono (Nat.le_of_lt R1.out.lt))).trans (hb3.mono (Nat.le_of_lt (R1.out.next hb2).lt))
  clear hb2 hb3
  go_ret
  exact ⟨rfl, R3, B3⟩
set_option maxHeartbeats 2000000 in
theorem zo_okap (w : World) (g : Nat) (m : Mo8) (s : ByteArray) (hz : (s.toList == []) = false) (h9 : (s.toList == [90]) = false) (h0 : 0 < s.size) (h3 : 3 < s.size) (h6 : (s.size : Int) = 6) (hc : (((s[3]).toNat : Nat) : Int) = 58) (hp : (((s[0]).toNat : Nat) : Int) = 43) (A B : ByteArray) (hA : s.extract 1 s.size = A) (hB : s.extract 4 s.size = B) (h mi : Int) (ba : ∀ w, Calls Tryz.prog 130 #[.string A, .int .i64 0, .int .i64 14] w fun e w' => e = .returned (.int .i64 h) ∧ Below w.heap.size w w') (bb : ∀ w, Calls Tryz.prog 130 #[.string B, .int .i64 0, .int .i64 59] w fun e w' => e = .returned (.int .i64 mi) ∧ Below w.heap.size w w') (g1 : 0 ≤ h) (g2 : h ≤ 14) (g3 : 0 ≤ mi) (g4 : mi ≤ 59) (g5 : h ≠ 14) (hr : MoAt w g m) :
    Calls Tryz.prog 92 #[.pointer (some ⟨g, 0, none⟩), .string s] w fun e w' => e = .returned (.bool true) ∧ MoAt w' g { m with z := true, o := 60 * h + mi } ∧ Below g w w' := by
  have BA := Lib.hid ba
  have BB := Lib.hid bb
  clear ba bb
  have HR := Lib.hid hr
  have c7 := row_cell hr 7
  have c8 := row_cell hr 8
  have fz := hr.froz
  simp [Mo8.cells] at c7 c8
  clear hr
  have g5b : (h == 14) = false := beq_false_of_ne g5
  have k1 : IntKind.i64.wrap (60 * h) = 60 * h := by rw [IntKind.wrap_i64]; omega
  have k2 : IntKind.i64.wrap (60 * h + mi) = 60 * h + mi := by rw [IntKind.wrap_i64]; omega
  have k3 : IntKind.i64.wrap (-(60 * h + mi)) = -(60 * h + mi) := by rw [IntKind.wrap_i64]; omega
  go_enter Tryz.func92, Tryz.ntmps92
  go_upto_region 4 with fail
  have r1 : MoAt (w.setCell ⟨g, 7, none⟩ (.bool true)) g { m with z := true } := HR.out.set 7 (.bool true) rfl
  have b1 : Below g w (w.setCell ⟨g, 7, none⟩ (.bool true)) := bel_set (Below.refl _ _) 7 _
  generalize World.setCell w _ _ = w1 at r1 b1 ⊢
  have B1 := Lib.hid b1
  have R1 := Lib.hid r1
  clear b1 c7 c8 fz HR r1
  go_upto_region 12 with (go_at_call 130; (first | ((with_reducible refine (BA.out _).mono ?_); rintro e w2 ⟨rfl, hb2⟩) | ((with_reducible refine (BB.out _).mono ?_); rintro e w3 ⟨rfl, hb3⟩)))
  have R3 := (R1.out.next hb2).next hb3
  have B3 : Below g w w3 := (B1.out.trans (hb2.mono (Nat.le_of_lt R1.out.lt))).trans (hb3.mono (Nat.le_of_lt (R1.out.next hb2).lt))
  clear hb2 hb3
  have c8 := row_cell R3 8
  have fz := R3.froz
  simp [Mo8.cells] at c8
  have R4 : MoAt (w3.setCell ⟨g, 8, none⟩ (.int .i64 (60 * h + mi))) g { m with z := true, o := 60 * h + mi } := R3.set 8 _ rfl
  have B4 : Below g w (w3.setCell ⟨g, 8, none⟩ (.int .i64 (60 * h + mi))) := bel_set B3 8 _
  go_upto_region 13 with fail
  generalize World.setCell w3 _ _ = w4 at R4 B4 ⊢
  clear c8 fz R3 B3
  go_wp2_with fail
  go_ret
  exact ⟨rfl, R4, B4⟩
set_option maxHeartbeats 2000000 in
theorem zo_okbp (w : World) (g : Nat) (m : Mo8) (s : ByteArray) (hz : (s.toList == []) = false) (h9 : (s.toList == [90]) = false) (h0 : 0 < s.size) (h3 : 3 < s.size) (h6 : (s.size : Int) = 6) (hc : (((s[3]).toNat : Nat) : Int) = 58) (hp : (((s[0]).toNat : Nat) : Int) = 43) (A B : ByteArray) (hA : s.extract 1 s.size = A) (hB : s.extract 4 s.size = B) (ba : ∀ w, Calls Tryz.prog 130 #[.string A, .int .i64 0, .int .i64 14] w fun e w' => e = .returned (.int .i64 14) ∧ Below w.heap.size w w') (bb : ∀ w, Calls Tryz.prog 130 #[.string B, .int .i64 0, .int .i64 59] w fun e w' => e = .returned (.int .i64 0) ∧ Below w.heap.size w w')  (hr : MoAt w g m) :
    Calls Tryz.prog 92 #[.pointer (some ⟨g, 0, none⟩), .string s] w fun e w' => e = .returned (.bool true) ∧ MoAt w' g { m with z := true, o := 840 } ∧ Below g w w' := by
  have BA := Lib.hid ba
  have BB := Lib.hid bb
  clear ba bb
  have HR := Lib.hid hr
  have c7 := row_cell hr 7
  have c8 := row_cell hr 8
  have fz := hr.froz
  simp [Mo8.cells] at c7 c8
  clear hr
  go_enter Tryz.func92, Tryz.ntmps92
  go_upto_region 4 with fail
  have r1 : MoAt (w.setCell ⟨g, 7, none⟩ (.bool true)) g { m with z := true } := HR.out.set 7 (.bool true) rfl
  have b1 : Below g w (w.setCell ⟨g, 7, none⟩ (.bool true)) := bel_set (Below.refl _ _) 7 _
  generalize World.setCell w _ _ = w1 at r1 b1 ⊢
  have B1 := Lib.hid b1
  have R1 := Lib.hid r1
  clear b1 c7 c8 fz HR r1
  go_upto_region 12 with (go_at_call 130; (first | ((with_reducible refine (BA.out _).mono ?_); rintro e w2 ⟨rfl, hb2⟩) | ((with_reducible refine (BB.out _).mono ?_); rintro e w3 ⟨rfl, hb3⟩)))
  have R3 := (R1.out.next hb2).next hb3
  have B3 : Below g w w3 := (B1.out.trans (hb2.mono (Nat.le_of_lt R1.out.lt))).trans (hb3.mono (Nat.le_of_lt (R1.out.next hb2).lt))
  clear hb2 hb3
  have c8 := row_cell R3 8
  have fz := R3.froz
  simp [Mo8.cells] at c8
  have R4 : MoAt (w3.setCell ⟨g, 8, none⟩ (.int .i64 (840))) g { m with z := true, o := 840 } := R3.set 8 _ rfl
  have B4 : Below g w (w3.setCell ⟨g, 8, none⟩ (.int .i64 (840))) := bel_set B3 8 _
  go_upto_region 13 with fail
  generalize World.setCell w3 _ _ = w4 at R4 B4 ⊢
  clear c8 fz R3 B3
  go_wp2_with fail
  go_ret
  exact ⟨rfl, R4, B4⟩
set_option maxHeartbeats 2000000 in
theorem zo_bhm (w : World) (g : Nat) (m : Mo8) (s : ByteArray) (hz : (s.toList == []) = false) (h9 : (s.toList == [90]) = false) (h0 : 0 < s.size) (h3 : 3 < s.size) (h6 : (s.size : Int) = 6) (hc : (((s[3]).toNat : Nat) : Int) = 58) (hp : (((s[0]).toNat : Nat) : Int) = 45) (A B : ByteArray) (hA : s.extract 1 s.size = A) (hB : s.extract 4 s.size = B) (h mi : Int) (ba : ∀ w, Calls Tryz.prog 130 #[.string A, .int .i64 0, .int .i64 14] w fun e w' => e = .returned (.int .i64 h) ∧ Below w.heap.size w w') (bb : ∀ w, Calls Tryz.prog 130 #[.string B, .int .i64 0, .int .i64 59] w fun e w' => e = .returned (.int .i64 mi) ∧ Below w.heap.size w w') (bad : h < 0) (hr : MoAt w g m) :
    Calls Tryz.prog 92 #[.pointer (some ⟨g, 0, none⟩), .string s] w fun e w' => e = .returned (.bool false) ∧ MoAt w' g { m with z := true, o := m.o } ∧ Below g w w' := by
  have BA := Lib.hid ba
  have BB := Lib.hid bb
  clear ba bb
  have HR := Lib.hid hr
  have c7 := row_cell hr 7
  have c8 := row_cell hr 8
  have fz := hr.froz
  simp [Mo8.cells] at c7 c8
  clear hr
  go_enter Tryz.func92, Tryz.ntmps92
  go_upto_region 4 with fail
  have r1 : MoAt (w.setCell ⟨g, 7, none⟩ (.bool true)) g { m with z := true } := HR.out.set 7 (.bool true) rfl
  have b1 : Below g w (w.setCell ⟨g, 7, none⟩ (.bool true)) := bel_set (Below.refl _ _) 7 _
  generalize World.setCell w _ _ = w1 at r1 b1 ⊢
  have B1 := Lib.hid b1
  have R1 := Lib.hid r1
  clear b1 c7 c8 fz HR r1
  go_wp2_with (go_at_call 130; (first | ((with_reducible refine (BA.out _).mono ?_); rintro e w2 ⟨rfl, hb2⟩) | ((with_reducible refine (BB.out _).mono ?_); rintro e w3 ⟨rfl, hb3⟩)))
  have R3 := (R1.out.next hb2).next hb3
  have B3 : Below g w w3 := (B1.out.trans (hb2.mono (Nat.le_of_lt R1.out.lt))).trans (hb3.mono (Nat.le_of_lt (R1.out.next hb2).lt))
  clear hb2 hb3
  go_ret
  exact ⟨rfl, R3, B3⟩
set_option maxHeartbeats 2000000 in
theorem zo_bmm (w : World) (g : Nat) (m : Mo8) (s : ByteArray) (hz : (s.toList == []) = false) (h9 : (s.toList == [90]) = false) (h0 : 0 < s.size) (h3 : 3 < s.size) (h6 : (s.size : Int) = 6) (hc : (((s[3]).toNat : Nat) : Int) = 58) (hp : (((s[0]).toNat : Nat) : Int) = 45) (A B : ByteArray) (hA : s.extract 1 s.size = A) (hB : s.extract 4 s.size = B) (h mi : Int) (ba : ∀ w, Calls Tryz.prog 130 #[.string A, .int .i64 0, .int .i64 14] w fun e w' => e = .returned (.int .i64 h) ∧ Below w.heap.size w w') (bb : ∀ w, Calls Tryz.prog 130 #[.string B, .int .i64 0, .int .i64 59] w fun e w' => e = .returned (.int .i64 mi) ∧ Below w.heap.size w w') (g1 : 0 ≤ h) (bad : mi < 0) (hr : MoAt w g m) :
    Calls Tryz.prog 92 #[.pointer (some ⟨g, 0, none⟩), .string s] w fun e w' => e = .returned (.bool false) ∧ MoAt w' g { m with z := true, o := m.o } ∧ Below g w w' := by
  have BA := Lib.hid ba
  have BB := Lib.hid bb
  clear ba bb
  have HR := Lib.hid hr
  have c7 := row_cell hr 7
  have c8 := row_cell hr 8
  have fz := hr.froz
  simp [Mo8.cells] at c7 c8
  clear hr
  go_enter Tryz.func92, Tryz.ntmps92
  go_upto_region 4 with fail
  have r1 : MoAt (w.setCell ⟨g, 7, none⟩ (.bool true)) g { m with z := true } := HR.out.set 7 (.bool true) rfl
  have b1 : Below g w (w.setCell ⟨g, 7, none⟩ (.bool true)) := bel_set (Below.refl _ _) 7 _
  generalize World.setCell w _ _ = w1 at r1 b1 ⊢
  have B1 := Lib.hid b1
  have R1 := Lib.hid r1
  clear b1 c7 c8 fz HR r1
  go_wp2_with (go_at_call 130; (first | ((with_reducible refine (BA.out _).mono ?_); rintro e w2 ⟨rfl, hb2⟩) | ((with_reducible refine (BB.out _).mono ?_); rintro e w3 ⟨rfl, hb3⟩)))
  have R3 := (R1.out.next hb2).next hb3
  have B3 : Below g w w3 := (B1.out.trans (hb2.mono (Nat.le_of_lt R1.out.lt))).trans (hb3.mono (Nat.le_of_lt (R1.out.next hb2).lt))
  clear hb2 hb3
  go_ret
  exact ⟨rfl, R3, B3⟩
set_option maxHeartbeats 2000000 in
theorem zo_bxm (w : World) (g : Nat) (m : Mo8) (s : ByteArray) (hz : (s.toList == []) = false) (h9 : (s.toList == [90]) = false) (h0 : 0 < s.size) (h3 : 3 < s.size) (h6 : (s.size : Int) = 6) (hc : (((s[3]).toNat : Nat) : Int) = 58) (hp : (((s[0]).toNat : Nat) : Int) = 45) (A B : ByteArray) (hA : s.extract 1 s.size = A) (hB : s.extract 4 s.size = B) (h mi : Int) (ba : ∀ w, Calls Tryz.prog 130 #[.string A, .int .i64 0, .int .i64 14] w fun e w' => e = .returned (.int .i64 h) ∧ Below w.heap.size w w') (bb : ∀ w, Calls Tryz.prog 130 #[.string B, .int .i64 0, .int .i64 59] w fun e w' => e = .returned (.int .i64 mi) ∧ Below w.heap.size w w') (g1 : 0 ≤ h) (g2 : 0 ≤ mi) (bad : h = 14) (bad2 : mi ≠ 0) (hr : MoAt w g m) :
    Calls Tryz.prog 92 #[.pointer (some ⟨g, 0, none⟩), .string s] w fun e w' => e = .returned (.bool false) ∧ MoAt w' g { m with z := true, o := m.o } ∧ Below g w w' := by
  have BA := Lib.hid ba
  have BB := Lib.hid bb
  clear ba bb
  have HR := Lib.hid hr
  have c7 := row_cell hr 7
  have c8 := row_cell hr 8
  have fz := hr.froz
  simp [Mo8.cells] at c7 c8
  clear hr
  have badb : (mi != 0) = true := bne_iff_ne.2 bad2
  have badc : (mi == 0) = false := beq_false_of_ne bad2
  go_enter Tryz.func92, Tryz.ntmps92
  go_upto_region 4 with fail
  have r1 : MoAt (w.setCell ⟨g, 7, none⟩ (.bool true)) g { m with z := true } := HR.out.set 7 (.bool true) rfl
  have b1 : Below g w (w.setCell ⟨g, 7, none⟩ (.bool true)) := bel_set (Below.refl _ _) 7 _
  generalize World.setCell w _ _ = w1 at r1 b1 ⊢
  have B1 := Lib.hid b1
  have R1 := Lib.hid r1
  clear b1 c7 c8 fz HR r1
  go_wp2_with (go_at_call 130; (first | ((with_reducible refine (BA.out _).mono ?_); rintro e w2 ⟨rfl, hb2⟩) | ((with_reducible refine (BB.out _).mono ?_); rintro e w3 ⟨rfl, hb3⟩)))
  have R3 := (R1.out.next hb2).next hb3
  have B3 : Below g w w3 := (B1.out.trans (hb2.mono (Nat.le_of_lt R1.out.lt))).trans (hb3.mono (Nat.le_of_lt (R1.out.next hb2).lt))
  clear hb2 hb3
  go_ret
  exact ⟨rfl, R3, B3⟩
set_option maxHeartbeats 2000000 in
theorem zo_okam (w : World) (g : Nat) (m : Mo8) (s : ByteArray) (hz : (s.toList == []) = false) (h9 : (s.toList == [90]) = false) (h0 : 0 < s.size) (h3 : 3 < s.size) (h6 : (s.size : Int) = 6) (hc : (((s[3]).toNat : Nat) : Int) = 58) (hp : (((s[0]).toNat : Nat) : Int) = 45) (A B : ByteArray) (hA : s.extract 1 s.size = A) (hB : s.extract 4 s.size = B) (h mi : Int) (ba : ∀ w, Calls Tryz.prog 130 #[.string A, .int .i64 0, .int .i64 14] w fun e w' => e = .returned (.int .i64 h) ∧ Below w.heap.size w w') (bb : ∀ w, Calls Tryz.prog 130 #[.string B, .int .i64 0, .int .i64 59] w fun e w' => e = .returned (.int .i64 mi) ∧ Below w.heap.size w w') (g1 : 0 ≤ h) (g2 : h ≤ 14) (g3 : 0 ≤ mi) (g4 : mi ≤ 59) (g5 : h ≠ 14) (hr : MoAt w g m) :
    Calls Tryz.prog 92 #[.pointer (some ⟨g, 0, none⟩), .string s] w fun e w' => e = .returned (.bool true) ∧ MoAt w' g { m with z := true, o := -(60 * h + mi) } ∧ Below g w w' := by
  have BA := Lib.hid ba
  have BB := Lib.hid bb
  clear ba bb
  have HR := Lib.hid hr
  have c7 := row_cell hr 7
  have c8 := row_cell hr 8
  have fz := hr.froz
  simp [Mo8.cells] at c7 c8
  clear hr
  have g5b : (h == 14) = false := beq_false_of_ne g5
  have k1 : IntKind.i64.wrap (60 * h) = 60 * h := by rw [IntKind.wrap_i64]; omega
  have k2 : IntKind.i64.wrap (60 * h + mi) = 60 * h + mi := by rw [IntKind.wrap_i64]; omega
  have k3 : IntKind.i64.wrap (-(60 * h + mi)) = -(60 * h + mi) := by rw [IntKind.wrap_i64]; omega
  go_enter Tryz.func92, Tryz.ntmps92
  go_upto_region 4 with fail
  have r1 : MoAt (w.setCell ⟨g, 7, none⟩ (.bool true)) g { m with z := true } := HR.out.set 7 (.bool true) rfl
  have b1 : Below g w (w.setCell ⟨g, 7, none⟩ (.bool true)) := bel_set (Below.refl _ _) 7 _
  generalize World.setCell w _ _ = w1 at r1 b1 ⊢
  have B1 := Lib.hid b1
  have R1 := Lib.hid r1
  clear b1 c7 c8 fz HR r1
  go_upto_region 12 with (go_at_call 130; (first | ((with_reducible refine (BA.out _).mono ?_); rintro e w2 ⟨rfl, hb2⟩) | ((with_reducible refine (BB.out _).mono ?_); rintro e w3 ⟨rfl, hb3⟩)))
  have R3 := (R1.out.next hb2).next hb3
  have B3 : Below g w w3 := (B1.out.trans (hb2.mono (Nat.le_of_lt R1.out.lt))).trans (hb3.mono (Nat.le_of_lt (R1.out.next hb2).lt))
  clear hb2 hb3
  have c8 := row_cell R3 8
  have fz := R3.froz
  simp [Mo8.cells] at c8
  have R4 : MoAt (w3.setCell ⟨g, 8, none⟩ (.int .i64 (60 * h + mi))) g { m with z := true, o := 60 * h + mi } := R3.set 8 _ rfl
  have B4 : Below g w (w3.setCell ⟨g, 8, none⟩ (.int .i64 (60 * h + mi))) := bel_set B3 8 _
  go_upto_region 13 with fail
  generalize World.setCell w3 _ _ = w4 at R4 B4 ⊢
  clear c8 fz R3 B3
  have c8 := row_cell R4 8
  have fz := R4.froz
  simp [Mo8.cells] at c8
  have R5 : MoAt (w4.setCell ⟨g, 8, none⟩ (.int .i64 (-(60 * h + mi)))) g { m with z := true, o := -(60 * h + mi) } := R4.set 8 _ rfl
  have B5 : Below g w (w4.setCell ⟨g, 8, none⟩ (.int .i64 (-(60 * h + mi)))) := bel_set B4 8 _
  go_wp2_with fail
  go_ret
  exact ⟨rfl, R5, B5⟩
set_option maxHeartbeats 2000000 in
theorem zo_okbm (w : World) (g : Nat) (m : Mo8) (s : ByteArray) (hz : (s.toList == []) = false) (h9 : (s.toList == [90]) = false) (h0 : 0 < s.size) (h3 : 3 < s.size) (h6 : (s.size : Int) = 6) (hc : (((s[3]).toNat : Nat) : Int) = 58) (hp : (((s[0]).toNat : Nat) : Int) = 45) (A B : ByteArray) (hA : s.extract 1 s.size = A) (hB : s.extract 4 s.size = B) (ba : ∀ w, Calls Tryz.prog 130 #[.string A, .int .i64 0, .int .i64 14] w fun e w' => e = .returned (.int .i64 14) ∧ Below w.heap.size w w') (bb : ∀ w, Calls Tryz.prog 130 #[.string B, .int .i64 0, .int .i64 59] w fun e w' => e = .returned (.int .i64 0) ∧ Below w.heap.size w w')  (hr : MoAt w g m) :
    Calls Tryz.prog 92 #[.pointer (some ⟨g, 0, none⟩), .string s] w fun e w' => e = .returned (.bool true) ∧ MoAt w' g { m with z := true, o := -840 } ∧ Below g w w' := by
  have BA := Lib.hid ba
  have BB := Lib.hid bb
  clear ba bb
  have HR := Lib.hid hr
  have c7 := row_cell hr 7
  have c8 := row_cell hr 8
  have fz := hr.froz
  simp [Mo8.cells] at c7 c8
  clear hr
  go_enter Tryz.func92, Tryz.ntmps92
  go_upto_region 4 with fail
  have r1 : MoAt (w.setCell ⟨g, 7, none⟩ (.bool true)) g { m with z := true } := HR.out.set 7 (.bool true) rfl
  have b1 : Below g w (w.setCell ⟨g, 7, none⟩ (.bool true)) := bel_set (Below.refl _ _) 7 _
  generalize World.setCell w _ _ = w1 at r1 b1 ⊢
  have B1 := Lib.hid b1
  have R1 := Lib.hid r1
  clear b1 c7 c8 fz HR r1
  go_upto_region 12 with (go_at_call 130; (first | ((with_reducible refine (BA.out _).mono ?_); rintro e w2 ⟨rfl, hb2⟩) | ((with_reducible refine (BB.out _).mono ?_); rintro e w3 ⟨rfl, hb3⟩)))
  have R3 := (R1.out.next hb2).next hb3
  have B3 : Below g w w3 := (B1.out.trans (hb2.mono (Nat.le_of_lt R1.out.lt))).trans (hb3.mono (Nat.le_of_lt (R1.out.next hb2).lt))
  clear hb2 hb3
  have c8 := row_cell R3 8
  have fz := R3.froz
  simp [Mo8.cells] at c8
  have R4 : MoAt (w3.setCell ⟨g, 8, none⟩ (.int .i64 (840))) g { m with z := true, o := 840 } := R3.set 8 _ rfl
  have B4 : Below g w (w3.setCell ⟨g, 8, none⟩ (.int .i64 (840))) := bel_set B3 8 _
  go_upto_region 13 with fail
  generalize World.setCell w3 _ _ = w4 at R4 B4 ⊢
  clear c8 fz R3 B3
  have c8 := row_cell R4 8
  have fz := R4.froz
  simp [Mo8.cells] at c8
  have R5 : MoAt (w4.setCell ⟨g, 8, none⟩ (.int .i64 (-840))) g { m with z := true, o := -840 } := R4.set 8 _ rfl
  have B5 : Below g w (w4.setCell ⟨g, 8, none⟩ (.int .i64 (-840))) := bel_set B4 8 _
  go_wp2_with fail
  go_ret
  exact ⟨rfl, R5, B5⟩
end Go.Proofs.YtlhcejbimlilaaaGreatDoor
/- The document's trimmed, decimal. -/
namespace Go.Tk
open Go Go.RowKit
/-- A number as the document has it. -/
def rnV (n : Nm) : Value := .agg #[.bool n.nan, .bool (decide (n.inf ≠ 0)), .bool (n.below || decide (n.inf < 0)), .string ⟨n.dg.toArray⟩, .int .i64 n.pw]
theorem rnV_mk (b : Bool) (d : List UInt8) (p : Int) : rnV ⟨b, d, p, 0, false⟩ = .agg #[.bool false, .bool false, .bool b, .string ⟨d.toArray⟩, .int .i64 p] := by simp [rnV]
theorem rnV_Z : rnV nmZ = .agg #[.bool false, .bool false, .bool false, .string ⟨#[]⟩, .int .i64 0] := by simp [rnV, nmZ]
def trN (b : Bool) (l : List UInt8) (ahead e : Int) : Nm := if tr0 (tl0 l) = [] then nmZ else ⟨b, tr0 (tl0 l), ahead + e - ((l.length : Int) - (tl0 l).length), 0, false⟩
theorem mkN_trN (b : Bool) (w p : List UInt8) (e : Int) : mkN b w p e = trN b (w ++ p) w.length e := rfl
def decE (s : List UInt8) (e : Int) : Option Nm := if okP (ctA (sgnR s)) (ctB (sgnR s)) = true then some (mkN (sgnB s) (ctA (sgnR s)) (ctB (sgnR s)) e) else none
theorem tr0_last (x : List UInt8) {c : UInt8} (h : c ≠ 48) : tr0 (x ++ [c]) = x ++ [c] := by
  unfold tr0
  rw [List.reverse_append]
  show (List.dropWhile _ (c :: x.reverse)).reverse = _
  rw [List.dropWhile_cons, if_neg (by simpa using h)]
  simp
theorem tr0_more (x : List UInt8) : tr0 (x ++ [48]) = tr0 x := tr0_rep 1 x
theorem tl0_more (x : List UInt8) : tl0 (48 :: x) = tl0 x := tl0_rep 1 x
theorem ct_app {p q : List UInt8} (h : dgB p = true) : ctA (p ++ q) = p ++ ctA q ∧ ctB (p ++ q) = ctB q := by
  have hp : ∀ c ∈ p, (c != 46) = true := fun c hc => by
    have := (dg_43 (c := c) (t := []) (dgB_sub (fun d hd => by simp at hd; rw [hd]; exact hc) h)).2.2.1
    simpa using this
  unfold ctA ctB
  rw [List.takeWhile_append_of_pos hp, List.dropWhile_append_of_pos hp]
  exact ⟨rfl, rfl⟩
/-- How a text without a sign is scanned. -/
theorem dec_scan (T : List UInt8) : dgB (T.take (dgN T)) = true ∧ (dgN T = T.length → ctA T = T ∧ ctB T = [] ∧ dgB T = true) ∧
    (∀ h : dgN T < T.length, dgB [T[dgN T]] = false ∧ (T[dgN T] ≠ 46 → dgB (ctA T) = false) ∧ (T[dgN T] = 46 → ctA T = T.take (dgN T) ∧ ctB T = T.drop (dgN T + 1))) := by
  have e1 : T.take (dgN T) = T.takeWhile (fun c => decide (48 ≤ c) && decide (c ≤ 57)) := by
    have h := List.takeWhile_append_dropWhile (p := fun c : UInt8 => decide (48 ≤ c) && decide (c ≤ 57)) (l := T)
    have h2 : (T.takeWhile (fun c : UInt8 => decide (48 ≤ c) && decide (c ≤ 57)) ++ T.dropWhile (fun c : UInt8 => decide (48 ≤ c) && decide (c ≤ 57))).take (dgN T) = T.takeWhile (fun c : UInt8 => decide (48 ≤ c) && decide (c ≤ 57)) := List.take_left
    rw [h] at h2
    exact h2
  have hd : dgB (T.take (dgN T)) = true := by rw [e1]; exact List.all_takeWhile
  refine ⟨hd, fun h => ?_, fun h => ?_⟩
  · have hT := (dgN_all8 T).1 h
    have := ct_app (q := []) hT
    rw [List.append_nil] at this
    exact ⟨by rw [this.1]; simp [ctA], this.2, hT⟩
  · have hsp : T = T.take (dgN T) ++ T[dgN T] :: T.drop (dgN T + 1) := by
      have := List.take_append_drop (dgN T) T
      rw [List.drop_eq_getElem_cons h] at this
      exact this.symm
    have hc : dgB [T[dgN T]] = false := by
      cases hb : dgB [T[dgN T]] with
      | false => rfl
      | true =>
        exfalso
        have h3 : dgB (T.take (dgN T) ++ [T[dgN T]]) = true := by rw [dgB_app, hd, hb]; rfl
        have h4 : dgN (T.take (dgN T) ++ T[dgN T] :: T.drop (dgN T + 1)) = dgN T := by rw [← hsp]
        have h5 : T.take (dgN T) ++ T[dgN T] :: T.drop (dgN T + 1) = (T.take (dgN T) ++ [T[dgN T]]) ++ T.drop (dgN T + 1) := by simp
        have h6 : ∀ (p q : List UInt8), dgB p = true → p.length ≤ dgN (p ++ q) := fun p q hp => by
          unfold dgN
          rw [List.takeWhile_append_of_pos (fun c hc => List.all_eq_true.1 hp c hc), List.length_append]
          omega
        have h7 := h6 _ (T.drop (dgN T + 1)) h3
        rw [← h5, h4, List.length_append, List.length_take] at h7
        simp at h7
        omega
    obtain ⟨c, hcc⟩ : ∃ c, c = T[dgN T] := ⟨_, rfl⟩
    obtain ⟨q, hq⟩ : ∃ q, q = T.drop (dgN T + 1) := ⟨_, rfl⟩
    obtain ⟨p, hp⟩ : ∃ p, p = T.take (dgN T) := ⟨_, rfl⟩
    have key : ctA T = p ++ ctA (c :: q) ∧ ctB T = ctB (c :: q) := by
      rw [← hp, ← hcc, ← hq] at hsp
      rw [← hp] at hd
      rw [hsp]
      exact ct_app hd
    refine ⟨hc, fun hn => ?_, fun he => ?_⟩
    · rw [key.1]
      have e2 : ctA (c :: q) = c :: ctA q := by unfold ctA; rw [List.takeWhile_cons, if_pos (by rw [hcc]; simpa using hn)]
      rw [e2, dgB_app]
      have e3 : dgB (c :: ctA q) = false := by
        have := dgB_app [c] (ctA q)
        rw [show [c] ++ ctA q = c :: ctA q from rfl, hcc, hc, Bool.false_and, ← hcc] at this
        exact this
      rw [e3, Bool.and_false]
    · rw [key.1, key.2, ← hp, ← hq, hcc, he]
      exact ⟨by simp [ctA], by simp [ctB]⟩
end Go.Tk
namespace Go.Proofs.YtlhcejbimlilaaaGreatDoor
open Go.RowKit Go.Tk
set_option maxHeartbeats 2000000 in
theorem trimmed_calls (bl : Bool) (d : ByteArray) (ah e : Int) (w : World) (hs : d.size ≤ 100000000000) (ha0 : 0 ≤ ah) (ha1 : ah ≤ 100000000000) (he0 : -100000000000 ≤ e) (he1 : e ≤ 100000000000) :
    Calls Tryz.prog 109 #[.bool bl, .string d, .int .i64 ah, .int .i64 e] w fun e' w' => e' = .returned (rnV (trN bl d.data.toList ah e)) ∧ Below w.heap.size w w' := by
  obtain ⟨N, hN⟩ : ∃ N, N = trN bl d.data.toList ah e := ⟨_, rfl⟩
  have hN2 : N = if tr0 (tl0 d.data.toList) = [] then nmZ else ⟨bl, tr0 (tl0 d.data.toList), ah + e - ((d.size : Int) - (tl0 d.data.toList).length), 0, false⟩ := by rw [hN, Lib.size_eq]; rfl
  rw [← hN]
  have HN := Lib.hid hN2
  clear hN hN2
  go_enter Tryz.func109, Tryz.ntmps109
  go_wp2_with fail
  go_loop [9] (fun i => ∃ k : Nat, k ≤ d.size ∧ i = .int .i64 (k : Nat) ∧ tl0 d.data.toList = tl0 (d.data.toList.drop k)) (fun i => d.size - (intOf i).toNat)
  case atStart => exact ⟨0, Nat.zero_le _, rfl, rfl⟩
  case round =>
    obtain ⟨k, hk, rfl, hd⟩ := hrel
    have rest : True := trivial
    by_cases hlt : k < d.size ∧ ∀ h : k < d.size, (d[k]) = 48
    · obtain ⟨hlt, h48⟩ := hlt
      have h48 := h48 hlt
      rw [List.drop_eq_getElem_cons (by rw [← Lib.size_eq]; exact hlt), ba_get d k hlt, h48, tl0_more] at hd
      have hx : (((d[k]).toNat : Nat) : Int) = 48 := by rw [h48]; rfl
      have HD := Lib.hid hd
      clear hd h48
      go_wp2_with fail
      go_round
      case rel => exact ⟨k + 1, by omega, by go_num, HD.out⟩
      case measure => simp [intOf]; omega
    · have hdk : tl0 d.data.toList = d.data.toList.drop k := by
        rw [hd]
        by_cases h1 : k < d.size
        · rw [List.drop_eq_getElem_cons (by rw [← Lib.size_eq]; exact h1), ba_get d k h1, tl0_cons]
          intro e; exact hlt ⟨h1, fun _ => e⟩
        · rw [List.drop_of_length_le (by rw [← Lib.size_eq]; omega)]; rfl
      have hguard : k < d.size → ∀ h : k < d.size, (((d[k]).toNat : Nat) : Int) ≠ 48 := fun h1 h e => hlt ⟨h1, fun _ => UInt8.toNat.inj (by have : (48 : UInt8).toNat = 48 := rfl; omega)⟩
      have HG := Lib.hid hguard
      have HDK := Lib.hid hdk
      clear hd hlt hdk hguard
      by_cases h1 : k < d.size
      · have hb : ((((d[k]).toNat : Nat) : Int) == 48) = false := beq_false_of_ne (HG.out h1 h1)
        have hb2 : ¬ (((d[k]).toNat : Nat) : Int) = 48 := HG.out h1 h1
        clear HG
        go_wp2_with fail
        clear hb hb2
        go_loop [10] (fun n => ∃ j : Nat, j ≤ d.size - k ∧ n = .int .i64 ((k + j : Nat) : Int) ∧ tr0 (d.data.toList.drop k) = tr0 ((d.data.toList.drop k).take j)) (fun n => (intOf n).toNat)
        case atStart => exact ⟨d.size - k, Nat.le_refl _, by congr 1; omega, by rw [List.take_of_length_le (by rw [List.length_drop, ← Lib.size_eq]; omega)]⟩
        case round =>
          obtain ⟨j, hj, rfl, hd⟩ := hrel
          cases j with
          | zero =>
            have hf := HN.out
            rw [HDK.out, hd, if_pos (by simp [tr0])] at hf
            subst hf
            clear hd HN HDK
            simp only [Nat.add_zero]
            go_wp2_with fail
            refine bodyPost_ret (v := .agg #[.bool false, .bool false, .bool false, .string ⟨#[]⟩, .int .i64 0]) (by simp [results, Tryz.results109, go_sem]) rfl ⟨by rw [rnV_Z], ?_⟩
            repeat (first | with_reducible exact Below.refl _ _ | with_reducible refine below_drewN ?_ _ | (with_reducible refine Below.setCell ?_ (by simp) _) | (with_reducible refine Below.alloc ?_ (by simp) _))
          | succ j =>
            have hlt2 : k + j < d.size := by omega
            have hl : j < (d.data.toList.drop k).length := by rw [List.length_drop, ← Lib.size_eq]; omega
            have hget : (d.data.toList.drop k)[j] = d[k + j] := by rw [List.getElem_drop, ba_get d (k + j) hlt2]
            have htk : (d.data.toList.drop k).take (j + 1) = (d.data.toList.drop k).take j ++ [d[k + j]] := by rw [List.take_add_one, List.getElem?_eq_getElem hl, hget]; rfl
            have hw1 : ((k + (j + 1) : Nat) : Int) - 1 = ((k + j : Nat) : Int) := by omega
            have hw2 : IntKind.i64.wrap ((k + (j + 1) : Nat) - 1 : Int) = ((k + j : Nat) : Int) := by rw [IntKind.wrap_i64]; omega
            have hw3 : (((k + j : Nat) : Int)).toNat = k + j := by omega
            obtain ⟨m, hm⟩ : ∃ m, m = k + j := ⟨_, rfl⟩
            obtain ⟨m1, hm1⟩ : ∃ m, m = k + (j + 1) := ⟨_, rfl⟩
            rw [htk] at hd
            simp only [← hm, ← hm1] at hlt2 hget htk hd hw1 hw2 hw3 ⊢
            have hkm : (k : Int) < (m1 : Int) := by omega
            by_cases h48 : d[m] = 48
            · rw [h48, tr0_more] at hd
              have hx : (((d[m]).toNat : Nat) : Int) = 48 := by rw [h48]; rfl
              have HD := Lib.hid hd
              have HM := Lib.hid hm
              have HM1 := Lib.hid hm1
              clear hd htk hget hl h48 hm hm1
              go_wp2_with fail
              go_round
              case rel => exact ⟨j, by omega, by first | rfl | (have := HM.out; go_num) | (rw [← HM.out]), HD.out⟩
              case measure => have := HM.out; have := HM1.out; simp [intOf]; omega
            · have hb : ((((d[m]).toNat : Nat) : Int) == 48) = false := beq_false_of_ne fun e => h48 (UInt8.toNat.inj (by have : (48 : UInt8).toNat = 48 := rfl; omega))
              have hb2 : ¬ (((d[m]).toNat : Nat) : Int) = 48 := fun e => h48 (UInt8.toNat.inj (by have : (48 : UInt8).toNat = 48 := rfl; omega))
              rw [tr0_last _ h48, ← htk] at hd
              have hex : d.extract k m1 = ⟨((d.data.toList.drop k).take (j + 1)).toArray⟩ := by rw [Lib.extract_eq, hm1, show k + (j + 1) - k = j + 1 from by omega]
              have hne : (d.data.toList.drop k).take (j + 1) ≠ [] := by rw [htk]; simp
              have hf := HN.out
              rw [HDK.out, hd, if_neg hne, List.length_drop, ← Lib.size_eq] at hf
              have hdot : ah + e - ((d.size : Int) - ((d.size - k : Nat) : Int)) = ah - k + e := by omega
              rw [hdot] at hf
              subst hf
              have HEX := Lib.hid hex
              have k1 : IntKind.i64.wrap (ah - (k : Int)) = ah - k := by rw [IntKind.wrap_i64]; omega
              have k2 : IntKind.i64.wrap (ah - (k : Int) + e) = ah - k + e := by rw [IntKind.wrap_i64]; omega
              have hnk : ((k : Int) == (m1 : Int)) = false := beq_false_of_ne (by omega)
              have hnk2 : ¬ (k : Int) = (m1 : Int) := by omega
              have hmd : m1 ≤ d.size := by omega
              have hkm2 : k ≤ m1 := by omega
              clear hd htk hget hl h48 hm hm1 hex hne hdot HDK HN
              go_wp2_with fail
              refine bodyPost_ret (v := .agg #[.bool false, .bool false, .bool bl, .string (d.extract k m1), .int .i64 (ah - (k : Int) + e)]) (by simp [results, Tryz.results109, go_sem]) rfl ⟨by rw [rnV_mk, HEX.out], ?_⟩
              repeat (first | with_reducible exact Below.refl _ _ | with_reducible refine below_drewN ?_ _ | (with_reducible refine Below.setCell ?_ (by simp) _) | (with_reducible refine Below.alloc ?_ (by simp) _))
      · have hke : k = d.size := by omega
        clear HG
        go_wp2_with fail
        have h1 : k ≤ d.size := hk
        go_loop [10] (fun n => ∃ j : Nat, j ≤ d.size - k ∧ n = .int .i64 ((k + j : Nat) : Int) ∧ tr0 (d.data.toList.drop k) = tr0 ((d.data.toList.drop k).take j)) (fun n => (intOf n).toNat)
        case atStart => exact ⟨d.size - k, Nat.le_refl _, by congr 1; omega, by rw [List.take_of_length_le (by rw [List.length_drop, ← Lib.size_eq]; omega)]⟩
        case round =>
          obtain ⟨j, hj, rfl, hd⟩ := hrel
          cases j with
          | zero =>
            have hf := HN.out
            rw [HDK.out, hd, if_pos (by simp [tr0])] at hf
            subst hf
            clear hd HN HDK
            simp only [Nat.add_zero]
            go_wp2_with fail
            refine bodyPost_ret (v := .agg #[.bool false, .bool false, .bool false, .string ⟨#[]⟩, .int .i64 0]) (by simp [results, Tryz.results109, go_sem]) rfl ⟨by rw [rnV_Z], ?_⟩
            repeat (first | with_reducible exact Below.refl _ _ | with_reducible refine below_drewN ?_ _ | (with_reducible refine Below.setCell ?_ (by simp) _) | (with_reducible refine Below.alloc ?_ (by simp) _))
          | succ j => omega
set_option maxHeartbeats 2000000 in
theorem rd_all (T : ByteArray) (s : ByteArray) (e : Int) (w : World) (bl : Bool) (b1 b2 b3 : Bool) (D : ByteArray) (p : Int) (hs : T.size ≤ 100000000000)
    (hsg : ∀ w, Calls Tryz.prog 107 #[.string s] w fun e' w' => e' = .returned (.tuple #[.string T, .bool bl]) ∧ Below w.heap.size w w') (hrn : ∀ w, Calls Tryz.prog 108 #[.string T] w fun e' w' => e' = .returned (.int .i64 (T.size : Nat)) ∧ w = w') (htr : ∀ w, Calls Tryz.prog 109 #[.bool bl, .string T, .int .i64 (T.size : Nat), .int .i64 e] w fun e' w' => e' = .returned (.agg #[.bool b1, .bool b2, .bool b3, .string D, .int .i64 p]) ∧ Below w.heap.size w w') :
    Calls Tryz.prog 70 #[.string s, .int .i64 e] w fun e' w' => e' = .returned (.tuple #[.agg #[.bool b1, .bool b2, .bool b3, .string D, .int .i64 p], .bool (decide ((0 : Int) < (T.size : Int)))]) ∧ Below w.heap.size w w' := by
  have HSG := Lib.hid hsg
  have HRN := Lib.hid hrn
  have HTR := Lib.hid htr
  clear hsg hrn htr
  go_enter Tryz.func70, Tryz.ntmps70
  go_wp2_with (first | (go_at_call 107; (with_reducible refine (HSG.out _).mono ?_); rintro e' w1 ⟨rfl, hb1⟩; (have R1 := (Res1.start 61 #[.bool false, .bool false, .bool false, .string ⟨#[]⟩, .int .i64 0] w).next hb1); (have c10 : w1.cell? ⟨w.heap.size, 0, none⟩ = some (.bool false) := R1.cell 0); (have c11 : w1.cell? ⟨w.heap.size, 1, none⟩ = some (.bool false) := R1.cell 1); (have c12 : w1.cell? ⟨w.heap.size, 2, none⟩ = some (.bool false) := R1.cell 2); (have c13 : w1.cell? ⟨w.heap.size, 3, none⟩ = some (.string ⟨#[]⟩) := R1.cell 3); (have c14 : w1.cell? ⟨w.heap.size, 4, none⟩ = some (.int .i64 0) := R1.cell 4); (have f1 : ∀ i, w1.frozen? ⟨w.heap.size, i, none⟩ = false := R1.frozen)) | (go_at_call 108; (first | ((with_reducible refine (HRN.out _).mono ?_); rintro e' w' ⟨rfl, rfl⟩))) | (go_at_call 109; (with_reducible refine (HTR.out _).mono ?_); rintro e' w2 ⟨rfl, hb2⟩; (have R2 := (R1).next hb2); (have c20 : w2.cell? ⟨w.heap.size, 0, none⟩ = some (.bool false) := R2.cell 0); (have c21 : w2.cell? ⟨w.heap.size, 1, none⟩ = some (.bool false) := R2.cell 1); (have c22 : w2.cell? ⟨w.heap.size, 2, none⟩ = some (.bool false) := R2.cell 2); (have c23 : w2.cell? ⟨w.heap.size, 3, none⟩ = some (.string ⟨#[]⟩) := R2.cell 3); (have c24 : w2.cell? ⟨w.heap.size, 4, none⟩ = some (.int .i64 0) := R2.cell 4); (have f2 : ∀ i, w2.frozen? ⟨w.heap.size, i, none⟩ = false := R2.frozen)))
  refine bodyPost_ret (v := .tuple #[.agg #[.bool b1, .bool b2, .bool b3, .string D, .int .i64 p], .bool (decide ((0 : Int) < (T.size : Int)))]) (by simp [results, Tryz.results70, go_sem, c20, c21, c22, c23, c24]) rfl ⟨rfl, ?_⟩
  repeat (first | exact R2.below | with_reducible refine below_drewN ?_ _ | (with_reducible refine Below.setCell ?_ (by simp) _))
set_option maxHeartbeats 2000000 in
theorem rd_dot (T : ByteArray) (s : ByteArray) (e : Int) (w : World) (bl : Bool) (A : Nat) (hlt : A < T.size) (hs : T.size ≤ 100000000000) (Q : ByteArray) (hQ : T.extract (A + 1) T.size = Q) (B : Nat) (hB : B ≤ T.size) (hc : (((T[A]).toNat : Nat) : Int) ≠ 46)
    (hsg : ∀ w, Calls Tryz.prog 107 #[.string s] w fun e' w' => e' = .returned (.tuple #[.string T, .bool bl]) ∧ Below w.heap.size w w') (hrn : ∀ w, Calls Tryz.prog 108 #[.string T] w fun e' w' => e' = .returned (.int .i64 (A : Nat)) ∧ w = w') (hrq : ∀ w, Calls Tryz.prog 108 #[.string Q] w fun e' w' => e' = .returned (.int .i64 (B : Nat)) ∧ w = w') :
    Calls Tryz.prog 70 #[.string s, .int .i64 e] w fun e' w' => e' = .returned (.tuple #[.agg #[.bool false, .bool false, .bool false, .string ⟨#[]⟩, .int .i64 0], .bool false]) ∧ Below w.heap.size w w' := by
  have HSG := Lib.hid hsg
  have HRN := Lib.hid hrn
  have HRQ := Lib.hid hrq
  have hm9 : ((A : Int) + 1).toNat = A + 1 := by omega
  have hnb : ((A : Int) == (T.size : Int)) = false := beq_false_of_ne (by omega)
  have hnn : ¬ (A : Int) = (T.size : Int) := by omega
  have k1 : IntKind.i64.wrap ((A : Int) + 1) = (A : Int) + 1 := by rw [IntKind.wrap_i64]; omega
  have k2 : IntKind.i64.wrap ((A : Int) + 1 + B) = (A : Int) + 1 + B := by rw [IntKind.wrap_i64]; omega
  have k3 : IntKind.i64.wrap ((A : Int) + B) = (A : Int) + B := by rw [IntKind.wrap_i64]; omega
  clear hsg hrn hrq
  have hcb : ((((T[A]).toNat : Nat) : Int) == 46) = false := beq_false_of_ne hc
  go_enter Tryz.func70, Tryz.ntmps70
  go_wp2_with (first | (go_at_call 107; (with_reducible refine (HSG.out _).mono ?_); rintro e' w1 ⟨rfl, hb1⟩; (have R1 := (Res1.start 61 #[.bool false, .bool false, .bool false, .string ⟨#[]⟩, .int .i64 0] w).next hb1); (have c10 : w1.cell? ⟨w.heap.size, 0, none⟩ = some (.bool false) := R1.cell 0); (have c11 : w1.cell? ⟨w.heap.size, 1, none⟩ = some (.bool false) := R1.cell 1); (have c12 : w1.cell? ⟨w.heap.size, 2, none⟩ = some (.bool false) := R1.cell 2); (have c13 : w1.cell? ⟨w.heap.size, 3, none⟩ = some (.string ⟨#[]⟩) := R1.cell 3); (have c14 : w1.cell? ⟨w.heap.size, 4, none⟩ = some (.int .i64 0) := R1.cell 4); (have f1 : ∀ i, w1.frozen? ⟨w.heap.size, i, none⟩ = false := R1.frozen)) | (go_at_call 108; (first | ((with_reducible refine (HRN.out _).mono ?_); rintro e' w' ⟨rfl, rfl⟩) | ((with_reducible refine (HRQ.out _).mono ?_); rintro e' w' ⟨rfl, rfl⟩))))
  refine bodyPost_ret (v := .tuple #[.agg #[.bool false, .bool false, .bool false, .string ⟨#[]⟩, .int .i64 0], .bool false]) (by simp [results, Tryz.results70, go_sem, c10, c11, c12, c13, c14]) rfl ⟨rfl, ?_⟩
  repeat (first | exact R1.below | with_reducible refine below_drewN ?_ _ | (with_reducible refine Below.setCell ?_ (by simp) _))
set_option maxHeartbeats 2000000 in
theorem rd_len (T : ByteArray) (s : ByteArray) (e : Int) (w : World) (bl : Bool) (A : Nat) (hlt : A < T.size) (hs : T.size ≤ 100000000000) (Q : ByteArray) (hQ : T.extract (A + 1) T.size = Q) (B : Nat) (hB : B ≤ T.size) (hc : (((T[A]).toNat : Nat) : Int) = 46) (hl : (A : Int) + 1 + B ≠ T.size)
    (hsg : ∀ w, Calls Tryz.prog 107 #[.string s] w fun e' w' => e' = .returned (.tuple #[.string T, .bool bl]) ∧ Below w.heap.size w w') (hrn : ∀ w, Calls Tryz.prog 108 #[.string T] w fun e' w' => e' = .returned (.int .i64 (A : Nat)) ∧ w = w') (hrq : ∀ w, Calls Tryz.prog 108 #[.string Q] w fun e' w' => e' = .returned (.int .i64 (B : Nat)) ∧ w = w') :
    Calls Tryz.prog 70 #[.string s, .int .i64 e] w fun e' w' => e' = .returned (.tuple #[.agg #[.bool false, .bool false, .bool false, .string ⟨#[]⟩, .int .i64 0], .bool false]) ∧ Below w.heap.size w w' := by
  have HSG := Lib.hid hsg
  have HRN := Lib.hid hrn
  have HRQ := Lib.hid hrq
  have hm9 : ((A : Int) + 1).toNat = A + 1 := by omega
  have hnb : ((A : Int) == (T.size : Int)) = false := beq_false_of_ne (by omega)
  have hnn : ¬ (A : Int) = (T.size : Int) := by omega
  have k1 : IntKind.i64.wrap ((A : Int) + 1) = (A : Int) + 1 := by rw [IntKind.wrap_i64]; omega
  have k2 : IntKind.i64.wrap ((A : Int) + 1 + B) = (A : Int) + 1 + B := by rw [IntKind.wrap_i64]; omega
  have k3 : IntKind.i64.wrap ((A : Int) + B) = (A : Int) + B := by rw [IntKind.wrap_i64]; omega
  clear hsg hrn hrq
  have hlb : (((A : Int) + 1 + (B : Int)) == (T.size : Int)) = false := beq_false_of_ne hl
  go_enter Tryz.func70, Tryz.ntmps70
  go_wp2_with (first | (go_at_call 107; (with_reducible refine (HSG.out _).mono ?_); rintro e' w1 ⟨rfl, hb1⟩; (have R1 := (Res1.start 61 #[.bool false, .bool false, .bool false, .string ⟨#[]⟩, .int .i64 0] w).next hb1); (have c10 : w1.cell? ⟨w.heap.size, 0, none⟩ = some (.bool false) := R1.cell 0); (have c11 : w1.cell? ⟨w.heap.size, 1, none⟩ = some (.bool false) := R1.cell 1); (have c12 : w1.cell? ⟨w.heap.size, 2, none⟩ = some (.bool false) := R1.cell 2); (have c13 : w1.cell? ⟨w.heap.size, 3, none⟩ = some (.string ⟨#[]⟩) := R1.cell 3); (have c14 : w1.cell? ⟨w.heap.size, 4, none⟩ = some (.int .i64 0) := R1.cell 4); (have f1 : ∀ i, w1.frozen? ⟨w.heap.size, i, none⟩ = false := R1.frozen)) | (go_at_call 108; (first | ((with_reducible refine (HRN.out _).mono ?_); rintro e' w' ⟨rfl, rfl⟩) | ((with_reducible refine (HRQ.out _).mono ?_); rintro e' w' ⟨rfl, rfl⟩))))
  refine bodyPost_ret (v := .tuple #[.agg #[.bool false, .bool false, .bool false, .string ⟨#[]⟩, .int .i64 0], .bool false]) (by simp [results, Tryz.results70, go_sem, c10, c11, c12, c13, c14]) rfl ⟨rfl, ?_⟩
  repeat (first | exact R1.below | with_reducible refine below_drewN ?_ _ | (with_reducible refine Below.setCell ?_ (by simp) _))
set_option maxHeartbeats 2000000 in
theorem rd_emp (T : ByteArray) (s : ByteArray) (e : Int) (w : World) (bl : Bool) (A : Nat) (hlt : A < T.size) (hs : T.size ≤ 100000000000) (Q : ByteArray) (hQ : T.extract (A + 1) T.size = Q) (B : Nat) (hB : B ≤ T.size) (hc : (((T[A]).toNat : Nat) : Int) = 46) (hl : (A : Int) + 1 + B = T.size) (h0 : (A : Int) + B = 0)
    (hsg : ∀ w, Calls Tryz.prog 107 #[.string s] w fun e' w' => e' = .returned (.tuple #[.string T, .bool bl]) ∧ Below w.heap.size w w') (hrn : ∀ w, Calls Tryz.prog 108 #[.string T] w fun e' w' => e' = .returned (.int .i64 (A : Nat)) ∧ w = w') (hrq : ∀ w, Calls Tryz.prog 108 #[.string Q] w fun e' w' => e' = .returned (.int .i64 (B : Nat)) ∧ w = w') :
    Calls Tryz.prog 70 #[.string s, .int .i64 e] w fun e' w' => e' = .returned (.tuple #[.agg #[.bool false, .bool false, .bool false, .string ⟨#[]⟩, .int .i64 0], .bool false]) ∧ Below w.heap.size w w' := by
  have HSG := Lib.hid hsg
  have HRN := Lib.hid hrn
  have HRQ := Lib.hid hrq
  have hm9 : ((A : Int) + 1).toNat = A + 1 := by omega
  have hnb : ((A : Int) == (T.size : Int)) = false := beq_false_of_ne (by omega)
  have hnn : ¬ (A : Int) = (T.size : Int) := by omega
  have k1 : IntKind.i64.wrap ((A : Int) + 1) = (A : Int) + 1 := by rw [IntKind.wrap_i64]; omega
  have k2 : IntKind.i64.wrap ((A : Int) + 1 + B) = (A : Int) + 1 + B := by rw [IntKind.wrap_i64]; omega
  have k3 : IntKind.i64.wrap ((A : Int) + B) = (A : Int) + B := by rw [IntKind.wrap_i64]; omega
  clear hsg hrn hrq
  go_enter Tryz.func70, Tryz.ntmps70
  go_wp2_with (first | (go_at_call 107; (with_reducible refine (HSG.out _).mono ?_); rintro e' w1 ⟨rfl, hb1⟩; (have R1 := (Res1.start 61 #[.bool false, .bool false, .bool false, .string ⟨#[]⟩, .int .i64 0] w).next hb1); (have c10 : w1.cell? ⟨w.heap.size, 0, none⟩ = some (.bool false) := R1.cell 0); (have c11 : w1.cell? ⟨w.heap.size, 1, none⟩ = some (.bool false) := R1.cell 1); (have c12 : w1.cell? ⟨w.heap.size, 2, none⟩ = some (.bool false) := R1.cell 2); (have c13 : w1.cell? ⟨w.heap.size, 3, none⟩ = some (.string ⟨#[]⟩) := R1.cell 3); (have c14 : w1.cell? ⟨w.heap.size, 4, none⟩ = some (.int .i64 0) := R1.cell 4); (have f1 : ∀ i, w1.frozen? ⟨w.heap.size, i, none⟩ = false := R1.frozen)) | (go_at_call 108; (first | ((with_reducible refine (HRN.out _).mono ?_); rintro e' w' ⟨rfl, rfl⟩) | ((with_reducible refine (HRQ.out _).mono ?_); rintro e' w' ⟨rfl, rfl⟩))))
  refine bodyPost_ret (v := .tuple #[.agg #[.bool false, .bool false, .bool false, .string ⟨#[]⟩, .int .i64 0], .bool false]) (by simp [results, Tryz.results70, go_sem, c10, c11, c12, c13, c14]) rfl ⟨rfl, ?_⟩
  repeat (first | exact R1.below | with_reducible refine below_drewN ?_ _ | (with_reducible refine Below.setCell ?_ (by simp) _))
set_option maxHeartbeats 2000000 in
theorem rd_ok (T : ByteArray) (s : ByteArray) (e : Int) (w : World) (bl : Bool) (A : Nat) (hlt : A < T.size) (hs : T.size ≤ 100000000000) (Q : ByteArray) (hQ : T.extract (A + 1) T.size = Q) (B : Nat) (hB : B ≤ T.size) (b1 b2 b3 : Bool) (D : ByteArray) (p : Int) (hc : (((T[A]).toNat : Nat) : Int) = 46) (hl : (A : Int) + 1 + B = T.size) (h0 : (A : Int) + B ≠ 0) (P PQ : ByteArray) (hP : T.extract 0 A = P) (hPQ : P ++ Q = PQ) (hPs : P.size ≤ 100000000000) (hQs : Q.size ≤ 100000000000)
    (hsg : ∀ w, Calls Tryz.prog 107 #[.string s] w fun e' w' => e' = .returned (.tuple #[.string T, .bool bl]) ∧ Below w.heap.size w w') (hrn : ∀ w, Calls Tryz.prog 108 #[.string T] w fun e' w' => e' = .returned (.int .i64 (A : Nat)) ∧ w = w') (hrq : ∀ w, Calls Tryz.prog 108 #[.string Q] w fun e' w' => e' = .returned (.int .i64 (B : Nat)) ∧ w = w') (htr : ∀ w, Calls Tryz.prog 109 #[.bool bl, .string PQ, .int .i64 (A : Nat), .int .i64 e] w fun e' w' => e' = .returned (.agg #[.bool b1, .bool b2, .bool b3, .string D, .int .i64 p]) ∧ Below w.heap.size w w') :
    Calls Tryz.prog 70 #[.string s, .int .i64 e] w fun e' w' => e' = .returned (.tuple #[.agg #[.bool b1, .bool b2, .bool b3, .string D, .int .i64 p], .bool true]) ∧ Below w.heap.size w w' := by
  have HTR := Lib.hid htr
  clear htr
  have HSG := Lib.hid hsg
  have HRN := Lib.hid hrn
  have HRQ := Lib.hid hrq
  have hm9 : ((A : Int) + 1).toNat = A + 1 := by omega
  have hnb : ((A : Int) == (T.size : Int)) = false := beq_false_of_ne (by omega)
  have hnn : ¬ (A : Int) = (T.size : Int) := by omega
  have k1 : IntKind.i64.wrap ((A : Int) + 1) = (A : Int) + 1 := by rw [IntKind.wrap_i64]; omega
  have k2 : IntKind.i64.wrap ((A : Int) + 1 + B) = (A : Int) + 1 + B := by rw [IntKind.wrap_i64]; omega
  have k3 : IntKind.i64.wrap ((A : Int) + B) = (A : Int) + B := by rw [IntKind.wrap_i64]; omega
  clear hsg hrn hrq
  have h0b : (((A : Int) + (B : Int)) == 0) = false := beq_false_of_ne h0
  go_enter Tryz.func70, Tryz.ntmps70
  go_upto_region 8 with (first | (go_at_call 107; (with_reducible refine (HSG.out _).mono ?_); rintro e' w1 ⟨rfl, hb1⟩; (have R1 := (Res1.start 61 #[.bool false, .bool false, .bool false, .string ⟨#[]⟩, .int .i64 0] w).next hb1); (have c10 : w1.cell? ⟨w.heap.size, 0, none⟩ = some (.bool false) := R1.cell 0); (have c11 : w1.cell? ⟨w.heap.size, 1, none⟩ = some (.bool false) := R1.cell 1); (have c12 : w1.cell? ⟨w.heap.size, 2, none⟩ = some (.bool false) := R1.cell 2); (have c13 : w1.cell? ⟨w.heap.size, 3, none⟩ = some (.string ⟨#[]⟩) := R1.cell 3); (have c14 : w1.cell? ⟨w.heap.size, 4, none⟩ = some (.int .i64 0) := R1.cell 4); (have f1 : ∀ i, w1.frozen? ⟨w.heap.size, i, none⟩ = false := R1.frozen)) | (go_at_call 108; (first | ((with_reducible refine (HRN.out _).mono ?_); rintro e' w' ⟨rfl, rfl⟩) | ((with_reducible refine (HRQ.out _).mono ?_); rintro e' w' ⟨rfl, rfl⟩))))
  refine wp_region_lw_tail 12 (by kernel_rfl) (by kernel_rfl) ?_
  simp only [List.take_succ_cons, List.take_zero, List.drop_succ_cons, List.drop_zero]
  repeat (go_big_quiet_step (first | exact rfl | (go_at_call 109; with_reducible exact lw_call (HTR.out _))))
  refine wpQuiet_nil ?_
  rintro ⟨w2, hb2⟩
  dsimp only
  have R2 := (R1).next hb2
  have c20 : w2.cell? ⟨w.heap.size, 0, none⟩ = some (.bool false) := R2.cell 0
  have c21 : w2.cell? ⟨w.heap.size, 1, none⟩ = some (.bool false) := R2.cell 1
  have c22 : w2.cell? ⟨w.heap.size, 2, none⟩ = some (.bool false) := R2.cell 2
  have c23 : w2.cell? ⟨w.heap.size, 3, none⟩ = some (.string ⟨#[]⟩) := R2.cell 3
  have c24 : w2.cell? ⟨w.heap.size, 4, none⟩ = some (.int .i64 0) := R2.cell 4
  have f2 : ∀ i, w2.frozen? ⟨w.heap.size, i, none⟩ = false := R2.frozen
  go_wp2_with fail
  refine bodyPost_ret (v := .tuple #[.agg #[.bool b1, .bool b2, .bool b3, .string D, .int .i64 p], .bool true]) (by simp [results, Tryz.results70, go_sem, c20, c21, c22, c23, c24]) rfl ⟨rfl, ?_⟩
  repeat (first | exact R2.below | with_reducible refine below_drewN ?_ _ | (with_reducible refine Below.setCell ?_ (by simp) _))
end Go.Proofs.YtlhcejbimlilaaaGreatDoor
