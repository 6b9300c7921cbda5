/- The document's is: walks (written by gen_vdv.py). -/
import Derived.Test.YtlhcejbimlilaaaGreatDoorVbA
import Derived.Test.YtlhcejbimlilaaaGreatDoorVbD
set_option linter.unusedVariables false
set_option linter.unusedSimpArgs false
namespace Go.Proofs.YtlhcejbimlilaaaGreatDoor
open Go.RowKit Go.Tk
set_option maxRecDepth 100000 in
set_option maxHeartbeats 2000000 in
theorem is_0 (n lo hi s : ByteArray) (w : World)  :
    Calls Tryz.prog 26 #[.agg #[.string n, .int .i64 0, .string lo, .string hi], .string s] w fun e w' => e = .returned (.bool true) ∧ Below w.heap.size w w' := by
  go_enter Tryz.func26, Tryz.ntmps26
  go_upto_region 1 with fail
  obtain ⟨rk, hb⟩ := box1 w (.cells #[.string n, .int .i64 0, .string lo, .string hi] 48)
  generalize World.alloc w _ = w2 at rk hb ⊢
  have k0 := row_cell rk 0
  have k1 := row_cell rk 1
  have k2 := row_cell rk 2
  have k3 := row_cell rk 3
  simp at k0 k1 k2 k3
  have HB := Lib.hid hb
  clear rk hb
  go_wp2_with fail
  go_ret
  exact ⟨rfl, HB.out⟩
set_option maxRecDepth 100000 in
set_option maxHeartbeats 2000000 in
theorem is_1 (n lo hi s : ByteArray) (w : World)  :
    Calls Tryz.prog 26 #[.agg #[.string n, .int .i64 1, .string lo, .string hi], .string s] w fun e w' => e = .returned (.bool true) ∧ Below w.heap.size w w' := by
  go_enter Tryz.func26, Tryz.ntmps26
  go_upto_region 1 with fail
  obtain ⟨rk, hb⟩ := box1 w (.cells #[.string n, .int .i64 1, .string lo, .string hi] 48)
  generalize World.alloc w _ = w2 at rk hb ⊢
  have k0 := row_cell rk 0
  have k1 := row_cell rk 1
  have k2 := row_cell rk 2
  have k3 := row_cell rk 3
  simp at k0 k1 k2 k3
  have HB := Lib.hid hb
  clear rk hb
  go_wp2_with fail
  go_ret
  exact ⟨rfl, HB.out⟩
set_option maxRecDepth 100000 in
set_option maxHeartbeats 2000000 in
theorem is_2a (n lo hi s : ByteArray) (w : World) (hs : s = ⟨#[116, 114, 117, 101]⟩) :
    Calls Tryz.prog 26 #[.agg #[.string n, .int .i64 2, .string lo, .string hi], .string s] w fun e w' => e = .returned (.bool true) ∧ Below w.heap.size w w' := by
  subst hs
  go_enter Tryz.func26, Tryz.ntmps26
  go_upto_region 1 with fail
  obtain ⟨rk, hb⟩ := box1 w (.cells #[.string n, .int .i64 2, .string lo, .string hi] 48)
  generalize World.alloc w _ = w2 at rk hb ⊢
  have k0 := row_cell rk 0
  have k1 := row_cell rk 1
  have k2 := row_cell rk 2
  have k3 := row_cell rk 3
  simp at k0 k1 k2 k3
  have HB := Lib.hid hb
  clear rk hb
  go_wp2_with fail
  go_ret
  exact ⟨rfl, HB.out⟩
set_option maxRecDepth 100000 in
set_option maxHeartbeats 2000000 in
theorem is_2b (n lo hi s : ByteArray) (w : World) (hs : s = ⟨#[102, 97, 108, 115, 101]⟩) :
    Calls Tryz.prog 26 #[.agg #[.string n, .int .i64 2, .string lo, .string hi], .string s] w fun e w' => e = .returned (.bool true) ∧ Below w.heap.size w w' := by
  subst hs
  go_enter Tryz.func26, Tryz.ntmps26
  go_upto_region 1 with fail
  obtain ⟨rk, hb⟩ := box1 w (.cells #[.string n, .int .i64 2, .string lo, .string hi] 48)
  generalize World.alloc w _ = w2 at rk hb ⊢
  have k0 := row_cell rk 0
  have k1 := row_cell rk 1
  have k2 := row_cell rk 2
  have k3 := row_cell rk 3
  simp at k0 k1 k2 k3
  have HB := Lib.hid hb
  clear rk hb
  go_wp2_with fail
  go_ret
  exact ⟨rfl, HB.out⟩
set_option maxRecDepth 100000 in
set_option maxHeartbeats 2000000 in
theorem is_2c (n lo hi s : ByteArray) (w : World) (hs : s = ⟨#[49]⟩) :
    Calls Tryz.prog 26 #[.agg #[.string n, .int .i64 2, .string lo, .string hi], .string s] w fun e w' => e = .returned (.bool true) ∧ Below w.heap.size w w' := by
  subst hs
  go_enter Tryz.func26, Tryz.ntmps26
  go_upto_region 1 with fail
  obtain ⟨rk, hb⟩ := box1 w (.cells #[.string n, .int .i64 2, .string lo, .string hi] 48)
  generalize World.alloc w _ = w2 at rk hb ⊢
  have k0 := row_cell rk 0
  have k1 := row_cell rk 1
  have k2 := row_cell rk 2
  have k3 := row_cell rk 3
  simp at k0 k1 k2 k3
  have HB := Lib.hid hb
  clear rk hb
  go_wp2_with fail
  go_ret
  exact ⟨rfl, HB.out⟩
set_option maxRecDepth 100000 in
set_option maxHeartbeats 2000000 in
theorem is_2d (n lo hi s : ByteArray) (w : World) (hs : s = ⟨#[48]⟩) :
    Calls Tryz.prog 26 #[.agg #[.string n, .int .i64 2, .string lo, .string hi], .string s] w fun e w' => e = .returned (.bool true) ∧ Below w.heap.size w w' := by
  subst hs
  go_enter Tryz.func26, Tryz.ntmps26
  go_upto_region 1 with fail
  obtain ⟨rk, hb⟩ := box1 w (.cells #[.string n, .int .i64 2, .string lo, .string hi] 48)
  generalize World.alloc w _ = w2 at rk hb ⊢
  have k0 := row_cell rk 0
  have k1 := row_cell rk 1
  have k2 := row_cell rk 2
  have k3 := row_cell rk 3
  simp at k0 k1 k2 k3
  have HB := Lib.hid hb
  clear rk hb
  go_wp2_with fail
  go_ret
  exact ⟨rfl, HB.out⟩
set_option maxRecDepth 100000 in
set_option maxHeartbeats 2000000 in
theorem is_2n (n lo hi s : ByteArray) (w : World) (n1 : (s.toList == [116, 114, 117, 101]) = false) (n2 : (s.toList == [102, 97, 108, 115, 101]) = false) (n3 : (s.toList == [49]) = false) (n4 : (s.toList == [48]) = false) :
    Calls Tryz.prog 26 #[.agg #[.string n, .int .i64 2, .string lo, .string hi], .string s] w fun e w' => e = .returned (.bool false) ∧ Below w.heap.size w w' := by
  go_enter Tryz.func26, Tryz.ntmps26
  go_upto_region 1 with fail
  obtain ⟨rk, hb⟩ := box1 w (.cells #[.string n, .int .i64 2, .string lo, .string hi] 48)
  generalize World.alloc w _ = w2 at rk hb ⊢
  have k0 := row_cell rk 0
  have k1 := row_cell rk 1
  have k2 := row_cell rk 2
  have k3 := row_cell rk 3
  simp at k0 k1 k2 k3
  have HB := Lib.hid hb
  clear rk hb
  go_wp2_with fail
  go_ret
  exact ⟨rfl, HB.out⟩
set_option maxRecDepth 100000 in
set_option maxHeartbeats 2000000 in
theorem is_3 (n lo hi s : ByteArray) (w : World) (ok : Bool) (h : ∀ w, Calls Tryz.prog 70 #[.string s, .int .i64 0] w fun e w' => ∃ V, e = .returned (.tuple #[V, .bool ok]) ∧ Below w.heap.size w w') :
    Calls Tryz.prog 26 #[.agg #[.string n, .int .i64 3, .string lo, .string hi], .string s] w fun e w' => e = .returned (.bool ok) ∧ Below w.heap.size w w' := by
  have H := Lib.hid h
  clear h
  go_enter Tryz.func26, Tryz.ntmps26
  go_upto_region 1 with fail
  obtain ⟨rk, hb⟩ := box1 w (.cells #[.string n, .int .i64 3, .string lo, .string hi] 48)
  generalize World.alloc w _ = w2 at rk hb ⊢
  have k0 := row_cell rk 0
  have k1 := row_cell rk 1
  have k2 := row_cell rk 2
  have k3 := row_cell rk 3
  simp at k0 k1 k2 k3
  have HB := Lib.hid hb
  clear rk hb
  go_wp2_with (go_at_call 70; (with_reducible refine (H.out _).mono ?_); rintro e' w5 ⟨V, rfl, hb5⟩)
  go_ret
  exact ⟨rfl, HB.out.trans (hb5.mono HB.out.size)⟩
set_option maxRecDepth 100000 in
set_option maxHeartbeats 2000000 in
theorem is_5 (n lo hi s : ByteArray) (w : World) (ok : Bool) (h : ∀ w, Calls Tryz.prog 73 #[.string s] w fun e w' => ∃ V, e = .returned (.tuple #[V, .bool ok]) ∧ Below w.heap.size w w') :
    Calls Tryz.prog 26 #[.agg #[.string n, .int .i64 5, .string lo, .string hi], .string s] w fun e w' => e = .returned (.bool ok) ∧ Below w.heap.size w w' := by
  have H := Lib.hid h
  clear h
  go_enter Tryz.func26, Tryz.ntmps26
  go_upto_region 1 with fail
  obtain ⟨rk, hb⟩ := box1 w (.cells #[.string n, .int .i64 5, .string lo, .string hi] 48)
  generalize World.alloc w _ = w2 at rk hb ⊢
  have k0 := row_cell rk 0
  have k1 := row_cell rk 1
  have k2 := row_cell rk 2
  have k3 := row_cell rk 3
  simp at k0 k1 k2 k3
  have HB := Lib.hid hb
  clear rk hb
  go_wp2_with (go_at_call 73; (with_reducible refine (H.out _).mono ?_); rintro e' w5 ⟨V, rfl, hb5⟩)
  go_ret
  exact ⟨rfl, HB.out.trans (hb5.mono HB.out.size)⟩
set_option maxRecDepth 100000 in
set_option maxHeartbeats 2000000 in
theorem is_6 (n lo hi s : ByteArray) (w : World) (ok : Bool) (h : ∀ w, Calls Tryz.prog 44 #[.string s, .int .i64 6] w fun e w' => ∃ V, e = .returned (.tuple #[V, .bool ok]) ∧ Below w.heap.size w w') :
    Calls Tryz.prog 26 #[.agg #[.string n, .int .i64 6, .string lo, .string hi], .string s] w fun e w' => e = .returned (.bool ok) ∧ Below w.heap.size w w' := by
  have H := Lib.hid h
  clear h
  go_enter Tryz.func26, Tryz.ntmps26
  go_upto_region 1 with fail
  obtain ⟨rk, hb⟩ := box1 w (.cells #[.string n, .int .i64 6, .string lo, .string hi] 48)
  generalize World.alloc w _ = w2 at rk hb ⊢
  have k0 := row_cell rk 0
  have k1 := row_cell rk 1
  have k2 := row_cell rk 2
  have k3 := row_cell rk 3
  simp at k0 k1 k2 k3
  have HB := Lib.hid hb
  clear rk hb
  go_wp2_with (go_at_call 44; (with_reducible refine (H.out _).mono ?_); rintro e' w5 ⟨V, rfl, hb5⟩)
  go_ret
  exact ⟨rfl, HB.out.trans (hb5.mono HB.out.size)⟩
set_option maxRecDepth 100000 in
set_option maxHeartbeats 2000000 in
theorem is_7 (n lo hi s : ByteArray) (w : World) (ok : Bool) (h : ∀ w, Calls Tryz.prog 44 #[.string s, .int .i64 7] w fun e w' => ∃ V, e = .returned (.tuple #[V, .bool ok]) ∧ Below w.heap.size w w') :
    Calls Tryz.prog 26 #[.agg #[.string n, .int .i64 7, .string lo, .string hi], .string s] w fun e w' => e = .returned (.bool ok) ∧ Below w.heap.size w w' := by
  have H := Lib.hid h
  clear h
  go_enter Tryz.func26, Tryz.ntmps26
  go_upto_region 1 with fail
  obtain ⟨rk, hb⟩ := box1 w (.cells #[.string n, .int .i64 7, .string lo, .string hi] 48)
  generalize World.alloc w _ = w2 at rk hb ⊢
  have k0 := row_cell rk 0
  have k1 := row_cell rk 1
  have k2 := row_cell rk 2
  have k3 := row_cell rk 3
  simp at k0 k1 k2 k3
  have HB := Lib.hid hb
  clear rk hb
  go_wp2_with (go_at_call 44; (with_reducible refine (H.out _).mono ?_); rintro e' w5 ⟨V, rfl, hb5⟩)
  go_ret
  exact ⟨rfl, HB.out.trans (hb5.mono HB.out.size)⟩
set_option maxRecDepth 100000 in
set_option maxHeartbeats 2000000 in
theorem is_8 (n lo hi s : ByteArray) (w : World) (ok : Bool) (h : ∀ w, Calls Tryz.prog 44 #[.string s, .int .i64 8] w fun e w' => ∃ V, e = .returned (.tuple #[V, .bool ok]) ∧ Below w.heap.size w w') :
    Calls Tryz.prog 26 #[.agg #[.string n, .int .i64 8, .string lo, .string hi], .string s] w fun e w' => e = .returned (.bool ok) ∧ Below w.heap.size w w' := by
  have H := Lib.hid h
  clear h
  go_enter Tryz.func26, Tryz.ntmps26
  go_upto_region 1 with fail
  obtain ⟨rk, hb⟩ := box1 w (.cells #[.string n, .int .i64 8, .string lo, .string hi] 48)
  generalize World.alloc w _ = w2 at rk hb ⊢
  have k0 := row_cell rk 0
  have k1 := row_cell rk 1
  have k2 := row_cell rk 2
  have k3 := row_cell rk 3
  simp at k0 k1 k2 k3
  have HB := Lib.hid hb
  clear rk hb
  go_wp2_with (go_at_call 44; (with_reducible refine (H.out _).mono ?_); rintro e' w5 ⟨V, rfl, hb5⟩)
  go_ret
  exact ⟨rfl, HB.out.trans (hb5.mono HB.out.size)⟩
set_option maxRecDepth 100000 in
set_option maxHeartbeats 2000000 in
theorem is_9 (n lo hi s : ByteArray) (w : World) (ok : Bool) (h : ∀ w, Calls Tryz.prog 42 #[.string s] w fun e w' => ∃ V, e = .returned (.tuple #[V, .bool ok]) ∧ Below w.heap.size w w') :
    Calls Tryz.prog 26 #[.agg #[.string n, .int .i64 9, .string lo, .string hi], .string s] w fun e w' => e = .returned (.bool ok) ∧ Below w.heap.size w w' := by
  have H := Lib.hid h
  clear h
  go_enter Tryz.func26, Tryz.ntmps26
  go_upto_region 1 with fail
  obtain ⟨rk, hb⟩ := box1 w (.cells #[.string n, .int .i64 9, .string lo, .string hi] 48)
  generalize World.alloc w _ = w2 at rk hb ⊢
  have k0 := row_cell rk 0
  have k1 := row_cell rk 1
  have k2 := row_cell rk 2
  have k3 := row_cell rk 3
  simp at k0 k1 k2 k3
  have HB := Lib.hid hb
  clear rk hb
  go_wp2_with (go_at_call 42; (with_reducible refine (H.out _).mono ?_); rintro e' w5 ⟨V, rfl, hb5⟩)
  go_ret
  exact ⟨rfl, HB.out.trans (hb5.mono HB.out.size)⟩
set_option maxRecDepth 100000 in
set_option maxHeartbeats 2000000 in
theorem is_10 (n lo hi s : ByteArray) (w : World) (ok : Bool) (h : ∀ w, Calls Tryz.prog 43 #[.string s] w fun e w' => ∃ V, e = .returned (.tuple #[V, .bool ok]) ∧ Below w.heap.size w w') :
    Calls Tryz.prog 26 #[.agg #[.string n, .int .i64 10, .string lo, .string hi], .string s] w fun e w' => e = .returned (.bool ok) ∧ Below w.heap.size w w' := by
  have H := Lib.hid h
  clear h
  go_enter Tryz.func26, Tryz.ntmps26
  go_upto_region 1 with fail
  obtain ⟨rk, hb⟩ := box1 w (.cells #[.string n, .int .i64 10, .string lo, .string hi] 48)
  generalize World.alloc w _ = w2 at rk hb ⊢
  have k0 := row_cell rk 0
  have k1 := row_cell rk 1
  have k2 := row_cell rk 2
  have k3 := row_cell rk 3
  simp at k0 k1 k2 k3
  have HB := Lib.hid hb
  clear rk hb
  go_wp2_with (go_at_call 43; (with_reducible refine (H.out _).mono ?_); rintro e' w5 ⟨V, rfl, hb5⟩)
  go_ret
  exact ⟨rfl, HB.out.trans (hb5.mono HB.out.size)⟩
set_option maxRecDepth 100000 in
set_option maxHeartbeats 2000000 in
theorem is_4n (n lo hi s : ByteArray) (w : World) (hin : ∀ w, Calls Tryz.prog 71 #[.string s] w fun e w' => e = .returned (.bool false) ∧ Below w.heap.size w w') :
    Calls Tryz.prog 26 #[.agg #[.string n, .int .i64 4, .string lo, .string hi], .string s] w fun e w' => e = .returned (.bool false) ∧ Below w.heap.size w w' := by
  have H := Lib.hid hin
  clear hin
  go_enter Tryz.func26, Tryz.ntmps26
  go_upto_region 1 with fail
  obtain ⟨rk, hb⟩ := box1 w (.cells #[.string n, .int .i64 4, .string lo, .string hi] 48)
  generalize World.alloc w _ = w2 at rk hb ⊢
  have k0 := row_cell rk 0
  have k1 := row_cell rk 1
  have k2 := row_cell rk 2
  have k3 := row_cell rk 3
  simp at k0 k1 k2 k3
  have HB := Lib.hid hb
  clear rk hb
  go_wp2_with (go_at_call 71; (with_reducible refine (H.out _).mono ?_); rintro e' w5 ⟨rfl, hb5⟩)
  go_ret
  exact ⟨rfl, HB.out.trans (hb5.mono HB.out.size)⟩
set_option maxRecDepth 100000 in
set_option maxHeartbeats 2000000 in
theorem is_4y (n lo hi s : ByteArray) (w : World) (ok : Bool) (hin : ∀ w, Calls Tryz.prog 71 #[.string s] w fun e w' => e = .returned (.bool true) ∧ Below w.heap.size w w') (hwi : ∀ w, Calls Tryz.prog 72 #[.agg #[.string n, .int .i64 4, .string lo, .string hi], .string s] w fun e w' => e = .returned (.bool ok) ∧ Below w.heap.size w w') :
    Calls Tryz.prog 26 #[.agg #[.string n, .int .i64 4, .string lo, .string hi], .string s] w fun e w' => e = .returned (.bool ok) ∧ Below w.heap.size w w' := by
  have H := Lib.hid hin
  have HW := Lib.hid hwi
  clear hin hwi
  go_enter Tryz.func26, Tryz.ntmps26
  go_upto_region 1 with fail
  obtain ⟨rk, hb⟩ := box1 w (.cells #[.string n, .int .i64 4, .string lo, .string hi] 48)
  generalize World.alloc w _ = w2 at rk hb ⊢
  have k0 := row_cell rk 0
  have k1 := row_cell rk 1
  have k2 := row_cell rk 2
  have k3 := row_cell rk 3
  simp at k0 k1 k2 k3
  have HB := Lib.hid hb
  clear rk hb
  go_upto_region 9 with (go_at_call 71; (with_reducible refine (H.out _).mono ?_); rintro e' w5 ⟨rfl, hb5⟩)
  have k0' := (hb5.cell (block_lt_of_cell k0)).trans k0
  have k1' := (hb5.cell (block_lt_of_cell k1)).trans k1
  have k2' := (hb5.cell (block_lt_of_cell k2)).trans k2
  have k3' := (hb5.cell (block_lt_of_cell k3)).trans k3
  replace HB := Lib.hid (HB.out.trans (hb5.mono HB.out.size))
  clear k0 k1 k2 k3 hb5
  go_wp2_with (go_at_call 72; (with_reducible refine (HW.out _).mono ?_); rintro e' w6 ⟨rfl, hb6⟩)
  go_ret
  exact ⟨rfl, HB.out.trans (hb6.mono HB.out.size)⟩
end Go.Proofs.YtlhcejbimlilaaaGreatDoor
