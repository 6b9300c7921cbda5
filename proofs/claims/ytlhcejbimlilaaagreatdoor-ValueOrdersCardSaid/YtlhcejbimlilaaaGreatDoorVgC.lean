/- VdV VgC, laid as one. -/
import Derived.Test.YtlhcejbimlilaaaGreatDoorVbA
import Derived.Test.YtlhcejbimlilaaaGreatDoorVbJ
import Derived.Test.YtlhcejbimlilaaaGreatDoorVdJ
set_option linter.unusedVariables false
set_option linter.unusedSimpArgs false
/- The document's is: walks (written by gen_vdv.py). -/
namespace Go.Proofs.YtlhcejbimlilaaaGreatDoor
open Go.RowKit Go.Tk
set_option maxRecDepth 100000 in
set_option maxHeartbeats 2000000 in
theorem is_0 (n lo hi s : ByteArray) (w : World)  :
    Calls Tryz.prog 26 #[.agg #[.string n, .int .i64 0, .string lo, .string hi], .string s] w fun e w' => e = .returned (.bool true) ∧ Below w.heap.size w w' := by
  go_enter Tryz.func26, Tryz.ntmps26
  go_upto_region 1 with fail
  obtain ⟨rk, hb⟩ := box1 w (.cells #[.string n, .int .i64 0, .string lo, .string hi] 48)
  generalize World.alloc w _ = w2 at rk hb ⊢
  have k0 := row_cell rk 0
  have k1 := row_cell rk 1
  have k2 := row_cell rk 2
  have k3 := row_cell rk 3
  simp at k0 k1 k2 k3
  have HB := Lib.hid hb
  clear rk hb
  go_wp2_with fail
  go_ret
  exact ⟨rfl, HB.out⟩
set_option maxRecDepth 100000 in
set_option maxHeartbeats 2000000 in
theorem is_1 (n lo hi s : ByteArray) (w : World)  :
    Calls Tryz.prog 26 #[.agg #[.string n, .int .i64 1, .string lo, .string hi], .string s] w fun e w' => e = .returned (.bool true) ∧ Below w.heap.size w w' := by
  go_enter Tryz.func26, Tryz.ntmps26
  go_upto_region 1 with fail
  obtain ⟨rk, hb⟩ := box1 w (.cells #[.string n, .int .i64 1, .string lo, .string hi] 48)
  generalize World.alloc w _ = w2 at rk hb ⊢
  have k0 := row_cell rk 0
  have k1 := row_cell rk 1
  have k2 := row_cell rk 2
  have k3 := row_cell rk 3
  simp at k0 k1 k2 k3
  have HB := Lib.hid hb
  clear rk hb
  go_wp2_with fail
  go_ret
  exact ⟨rfl, HB.out⟩
set_option maxRecDepth 100000 in
set_option maxHeartbeats 2000000 in
theorem is_2a (n lo hi s : ByteArray) (w : World) (hs : s = ⟨#[116, 114, 117, 101]⟩) :
    Calls Tryz.prog 26 #[.agg #[.string n, .int .i64 2, .string lo, .string hi], .string s] w fun e w' => e = .returned (.bool true) ∧ Below w.heap.size w w' := by
  subst hs
  go_enter Tryz.func26, Tryz.ntmps26
  go_upto_region 1 with fail
  obtain ⟨rk, hb⟩ := box1 w (.cells #[.string n, .int .i64 2, .string lo, .string hi] 48)
  generalize World.alloc w _ = w2 at rk hb ⊢
  have k0 := row_cell rk 0
  have k1 := row_cell rk 1
  have k2 := row_cell rk 2
  have k3 := row_cell rk 3
  simp at k0 k1 k2 k3
  have HB := Lib.hid hb
  clear rk hb
  go_wp2_with fail
  go_ret
  exact ⟨rfl, HB.out⟩
set_option maxRecDepth 100000 in
set_option maxHeartbeats 2000000 in
theorem is_2b (n lo hi s : ByteArray) (w : World) (hs : s = ⟨#[102, 97, 108, 115, 101]⟩) :
    Calls Tryz.prog 26 #[.agg #[.string n, .int .i64 2, .string lo, .string hi], .string s] w fun e w' => e = .returned (.bool true) ∧ Below w.heap.size w w' := by
  subst hs
  go_enter Tryz.func26, Tryz.ntmps26
  go_upto_region 1 with fail
  obtain ⟨rk, hb⟩ := box1 w (.cells #[.string n, .int .i64 2, .string lo, .string hi] 48)
  generalize World.alloc w _ = w2 at rk hb ⊢
  have k0 := row_cell rk 0
  have k1 := row_cell rk 1
  have k2 := row_cell rk 2
  have k3 := row_cell rk 3
  simp at k0 k1 k2 k3
  have HB := Lib.hid hb
  clear rk hb
  go_wp2_with fail
  go_ret
  exact ⟨rfl, HB.out⟩
set_option maxRecDepth 100000 in
set_option maxHeartbeats 2000000 in
theorem is_2c (n lo hi s : ByteArray) (w : World) (hs : s = ⟨#[49]⟩) :
    Calls Tryz.prog 26 #[.agg #[.string n, .int .i64 2, .string lo, .string hi], .string s] w fun e w' => e = .returned (.bool true) ∧ Below w.heap.size w w' := by
  subst hs
  go_enter Tryz.func26, Tryz.ntmps26
  go_upto_region 1 with fail
  obtain ⟨rk, hb⟩ := box1 w (.cells #[.string n, .int .i64 2, .string lo, .string hi] 48)
  generalize World.alloc w _ = w2 at rk hb ⊢
  have k0 := row_cell rk 0
  have k1 := row_cell rk 1
  have k2 := row_cell rk 2
  have k3 := row_cell rk 3
  simp at k0 k1 k2 k3
  have HB := Lib.hid hb
  clear rk hb
  go_wp2_with fail
  go_ret
  exact ⟨rfl, HB.out⟩
set_option maxRecDepth 100000 in
set_option maxHeartbeats 2000000 in
theorem is_2d (n lo hi s : ByteArray) (w : World) (hs : s = ⟨#[48]⟩) :
    Calls Tryz.prog 26 #[.agg #[.string n, .int .i64 2, .string lo, .string hi], .string s] w fun e w' => e = .returned (.bool true) ∧ Below w.heap.size w w' := by
  subst hs
  go_enter Tryz.func26, Tryz.ntmps26
  go_upto_region 1 with fail
  obtain ⟨rk, hb⟩ := box1 w (.cells #[.string n, .int .i64 2, .string lo, .string hi] 48)
  generalize World.alloc w _ = w2 at rk hb ⊢
  have k0 := row_cell rk 0
  have k1 := row_cell rk 1
  have k2 := row_cell rk 2
  have k3 := row_cell rk 3
  simp at k0 k1 k2 k3
  have HB := Lib.hid hb
  clear rk hb
  go_wp2_with fail
  go_ret
  exact ⟨rfl, HB.out⟩
set_option maxRecDepth 100000 in
set_option maxHeartbeats 2000000 in
theorem is_2n (n lo hi s : ByteArray) (w : World) (n1 : (s.toList == [116, 114, 117, 101]) = false) (n2 : (s.toList == [102, 97, 108, 115, 101]) = false) (n3 : (s.toList == [49]) = false) (n4 : (s.toList == [48]) = false) :
    Calls Tryz.prog 26 #[.agg #[.string n, .int .i64 2, .string lo, .string hi], .string s] w fun e w' => e = .returned (.bool false) ∧ Below w.heap.size w w' := by
  go_enter Tryz.func26, Tryz.ntmps26
  go_upto_region 1 with fail
  obtain ⟨rk, hb⟩ := box1 w (.cells #[.string n, .int .i64 2, .string lo, .string hi] 48)
  generalize World.alloc w _ = w2 at rk hb ⊢
  have k0 := row_cell rk 0
  have k1 := row_cell rk 1
  have k2 := row_cell rk 2
  have k3 := row_cell rk 3
  simp at k0 k1 k2 k3
  have HB := Lib.hid hb
  clear rk hb
  go_wp2_with fail
  go_ret
  exact ⟨rfl, HB.out⟩
set_option maxRecDepth 100000 in
set_option maxHeartbeats 2000000 in
theorem is_3 (n lo hi s : ByteArray) (w : World) (ok : Bool) (h : ∀ w, Calls Tryz.prog 70 #[.string s, .int .i64 0] w fun e w' => ∃ V, e = .returned (.tuple #[V, .bool ok]) ∧ Below w.heap.size w w') :
    Calls Tryz.prog 26 #[.agg #[.string n, .int .i64 3, .string lo, .string hi], .string s] w fun e w' => e = .returned (.bool ok) ∧ Below w.heap.size w w' := by
  have H := Lib.hid h
  clear h
  go_enter Tryz.func26, Tryz.ntmps26
  go_upto_region 1 with fail
  obtain ⟨rk, hb⟩ := box1 w (.cells #[.string n, .int .i64 3, .string lo, .string hi] 48)
  generalize World.alloc w _ = w2 at rk hb ⊢
  have k0 := row_cell rk 0
  have k1 := row_cell rk 1
  have k2 := row_cell rk 2
  have k3 := row_cell rk 3
  simp at k0 k1 k2 k3
  have HB := Lib.hid hb
  clear rk hb
  go_wp2_with (go_at_call 70; (with_reducible refine (H.out _).mono ?_); rintro e' w5 ⟨V, rfl, hb5⟩)
  go_ret
  exact ⟨rfl, HB.out.trans (hb5.mono HB.out.size)⟩
set_option maxRecDepth 100000 in
set_option maxHeartbeats 2000000 in
theorem is_5 (n lo hi s : ByteArray) (w : World) (ok : Bool) (h : ∀ w, Calls Tryz.prog 73 #[.string s] w fun e w' => ∃ V, e = .returned (.tuple #[V, .bool ok]) ∧ Below w.heap.size w w') :
    Calls Tryz.prog 26 #[.agg #[.string n, .int .i64 5, .string lo, .string hi], .string s] w fun e w' => e = .returned (.bool ok) ∧ Below w.heap.size w w' := by
  have H := Lib.hid h
  clear h
  go_enter Tryz.func26, Tryz.ntmps26
  go_upto_region 1 with fail
  obtain ⟨rk, hb⟩ := box1 w (.cells #[.string n, .int .i64 5, .string lo, .string hi] 48)
  generalize World.alloc w _ = w2 at rk hb ⊢
  have k0 := row_cell rk 0
  have k1 := row_cell rk 1
  have k2 := row_cell rk 2
  have k3 := row_cell rk 3
  simp at k0 k1 k2 k3
  have HB := Lib.hid hb
  clear rk hb
  go_wp2_with (go_at_call 73; (with_reducible refine (H.out _).mono ?_); rintro e' w5 ⟨V, rfl, hb5⟩)
  go_ret
  exact ⟨rfl, HB.out.trans (hb5.mono HB.out.size)⟩
set_option maxRecDepth 100000 in
set_option maxHeartbeats 2000000 in
theorem is_6 (n lo hi s : ByteArray) (w : World) (ok : Bool) (h : ∀ w, Calls Tryz.prog 44 #[.string s, .int .i64 6] w fun e w' => ∃ V, e = .returned (.tuple #[V, .bool ok]) ∧ Below w.heap.size w w') :
    Calls Tryz.prog 26 #[.agg #[.string n, .int .i64 6, .string lo, .string hi], .string s] w fun e w' => e = .returned (.bool ok) ∧ Below w.heap.size w w' := by
  have H := Lib.hid h
  clear h
  go_enter Tryz.func26, Tryz.ntmps26
  go_upto_region 1 with fail
  obtain ⟨rk, hb⟩ := box1 w (.cells #[.string n, .int .i64 6, .string lo, .string hi] 48)
  generalize World.alloc w _ = w2 at rk hb ⊢
  have k0 := row_cell rk 0
  have k1 := row_cell rk 1
  have k2 := row_cell rk 2
  have k3 := row_cell rk 3
  simp at k0 k1 k2 k3
  have HB := Lib.hid hb
  clear rk hb
  go_wp2_with (go_at_call 44; (with_reducible refine (H.out _).mono ?_); rintro e' w5 ⟨V, rfl, hb5⟩)
  go_ret
  exact ⟨rfl, HB.out.trans (hb5.mono HB.out.size)⟩
set_option maxRecDepth 100000 in
set_option maxHeartbeats 2000000 in
theorem is_7 (n lo hi s : ByteArray) (w : World) (ok : Bool) (h : ∀ w, Calls Tryz.prog 44 #[.string s, .int .i64 7] w fun e w' => ∃ V, e = .returned (.tuple #[V, .bool ok]) ∧ Below w.heap.size w w') :
    Calls Tryz.prog 26 #[.agg #[.string n, .int .i64 7, .string lo, .string hi], .string s] w fun e w' => e = .returned (.bool ok) ∧ Below w.heap.size w w' := by
  have H := Lib.hid h
  clear h
  go_enter Tryz.func26, Tryz.ntmps26
  go_upto_region 1 with fail
  obtain ⟨rk, hb⟩ := box1 w (.cells #[.string n, .int .i64 7, .string lo, .string hi] 48)
  generalize World.alloc w _ = w2 at rk hb ⊢
  have k0 := row_cell rk 0
  have k1 := row_cell rk 1
  have k2 := row_cell rk 2
  have k3 := row_cell rk 3
  simp at k0 k1 k2 k3
  have HB := Lib.hid hb
  clear rk hb
  go_wp2_with (go_at_call 44; (with_reducible refine (H.out _).mono ?_); rintro e' w5 ⟨V, rfl, hb5⟩)
  go_ret
  exact ⟨rfl, HB.out.trans (hb5.mono HB.out.size)⟩
set_option maxRecDepth 100000 in
set_option maxHeartbeats 2000000 in
theorem is_8 (n lo hi s : ByteArray) (w : World) (ok : Bool) (h : ∀ w, Calls Tryz.prog 44 #[.string s, .int .i64 8] w fun e w' => ∃ V, e = .returned (.tuple #[V, .bool ok]) ∧ Below w.heap.size w w') :
    Calls Tryz.prog 26 #[.agg #[.string n, .int .i64 8, .string lo, .string hi], .string s] w fun e w' => e = .returned (.bool ok) ∧ Below w.heap.size w w' := by
  have H := Lib.hid h
  clear h
  go_enter Tryz.func26, Tryz.ntmps26
  go_upto_region 1 with fail
  obtain ⟨rk, hb⟩ := box1 w (.cells #[.string n, .int .i64 8, .string lo, .string hi] 48)
  generalize World.alloc w _ = w2 at rk hb ⊢
  have k0 := row_cell rk 0
  have k1 := row_cell rk 1
  have k2 := row_cell rk 2
  have k3 := row_cell rk 3
  simp at k0 k1 k2 k3
  have HB := Lib.hid hb
  clear rk hb
  go_wp2_with (go_at_call 44; (with_reducible refine (H.out _).mono ?_); rintro e' w5 ⟨V, rfl, hb5⟩)
  go_ret
  exact ⟨rfl, HB.out.trans (hb5.mono HB.out.size)⟩
set_option maxRecDepth 100000 in
set_option maxHeartbeats 2000000 in
theorem is_9 (n lo hi s : ByteArray) (w : World) (ok : Bool) (h : ∀ w, Calls Tryz.prog 42 #[.string s] w fun e w' => ∃ V, e = .returned (.tuple #[V, .bool ok]) ∧ Below w.heap.size w w') :
    Calls Tryz.prog 26 #[.agg #[.string n, .int .i64 9, .string lo, .string hi], .string s] w fun e w' => e = .returned (.bool ok) ∧ Below w.heap.size w w' := by
  have H := Lib.hid h
  clear h
  go_enter Tryz.func26, Tryz.ntmps26
  go_upto_region 1 with fail
  obtain ⟨rk, hb⟩ := box1 w (.cells #[.string n, .int .i64 9, .string lo, .string hi] 48)
  generalize World.alloc w _ = w2 at rk hb ⊢
  have k0 := row_cell rk 0
  have k1 := row_cell rk 1
  have k2 := row_cell rk 2
  have k3 := row_cell rk 3
  simp at k0 k1 k2 k3
  have HB := Lib.hid hb
  clear rk hb
  go_wp2_with (go_at_call 42; (with_reducible refine (H.out _).mono ?_); rintro e' w5 ⟨V, rfl, hb5⟩)
  go_ret
  exact ⟨rfl, HB.out.trans (hb5.mono HB.out.size)⟩
set_option maxRecDepth 100000 in
set_option maxHeartbeats 2000000 in
theorem is_10 (n lo hi s : ByteArray) (w : World) (ok : Bool) (h : ∀ w, Calls Tryz.prog 43 #[.string s] w fun e w' => ∃ V, e = .returned (.tuple #[V, .bool ok]) ∧ Below w.heap.size w w') :
    Calls Tryz.prog 26 #[.agg #[.string n, .int .i64 10, .string lo, .string hi], .string s] w fun e w' => e = .returned (.bool ok) ∧ Below w.heap.size w w' := by
  have H := Lib.hid h
  clear h
  go_enter Tryz.func26, Tryz.ntmps26
  go_upto_region 1 with fail
  obtain ⟨rk, hb⟩ := box1 w (.cells #[.string n, .int .i64 10, .string lo, .string hi] 48)
  generalize World.alloc w _ = w2 at rk hb ⊢
  have k0 := row_cell rk 0
  have k1 := row_cell rk 1
  have k2 := row_cell rk 2
  have k3 := row_cell rk 3
  simp at k0 k1 k2 k3
  have HB := Lib.hid hb
  clear rk hb
  go_wp2_with (go_at_call 43; (with_reducible refine (H.out _).mono ?_); rintro e' w5 ⟨V, rfl, hb5⟩)
  go_ret
  exact ⟨rfl, HB.out.trans (hb5.mono HB.out.size)⟩
set_option maxRecDepth 100000 in
set_option maxHeartbeats 2000000 in
theorem is_4n (n lo hi s : ByteArray) (w : World) (hin : ∀ w, Calls Tryz.prog 71 #[.string s] w fun e w' => e = .returned (.bool false) ∧ Below w.heap.size w w') :
    Calls Tryz.prog 26 #[.agg #[.string n, .int .i64 4, .string lo, .string hi], .string s] w fun e w' => e = .returned (.bool false) ∧ Below w.heap.size w w' := by
  have H := Lib.hid hin
  clear hin
  go_enter Tryz.func26, Tryz.ntmps26
  go_upto_region 1 with fail
  obtain ⟨rk, hb⟩ := box1 w (.cells #[.string n, .int .i64 4, .string lo, .string hi] 48)
  generalize World.alloc w _ = w2 at rk hb ⊢
  have k0 := row_cell rk 0
  have k1 := row_cell rk 1
  have k2 := row_cell rk 2
  have k3 := row_cell rk 3
  simp at k0 k1 k2 k3
  have HB := Lib.hid hb
  clear rk hb
  go_wp2_with (go_at_call 71; (with_reducible refine (H.out _).mono ?_); rintro e' w5 ⟨rfl, hb5⟩)
  go_ret
  exact ⟨rfl, HB.out.trans (hb5.mono HB.out.size)⟩
set_option maxRecDepth 100000 in
set_option maxHeartbeats 2000000 in
theorem is_4y (n lo hi s : ByteArray) (w : World) (ok : Bool) (hin : ∀ w, Calls Tryz.prog 71 #[.string s] w fun e w' => e = .returned (.bool true) ∧ Below w.heap.size w w') (hwi : ∀ w, Calls Tryz.prog 72 #[.agg #[.string n, .int .i64 4, .string lo, .string hi], .string s] w fun e w' => e = .returned (.bool ok) ∧ Below w.heap.size w w') :
    Calls Tryz.prog 26 #[.agg #[.string n, .int .i64 4, .string lo, .string hi], .string s] w fun e w' => e = .returned (.bool ok) ∧ Below w.heap.size w w' := by
  have H := Lib.hid hin
  have HW := Lib.hid hwi
  clear hin hwi
  go_enter Tryz.func26, Tryz.ntmps26
  go_upto_region 1 with fail
  obtain ⟨rk, hb⟩ := box1 w (.cells #[.string n, .int .i64 4, .string lo, .string hi] 48)
  generalize World.alloc w _ = w2 at rk hb ⊢
  have k0 := row_cell rk 0
  have k1 := row_cell rk 1
  have k2 := row_cell rk 2
  have k3 := row_cell rk 3
  simp at k0 k1 k2 k3
  have HB := Lib.hid hb
  clear rk hb
  go_upto_region 9 with (go_at_call 71; (with_reducible refine (H.out _).mono ?_); rintro e' w5 ⟨rfl, hb5⟩)
  have k0' := (hb5.cell (block_lt_of_cell k0)).trans k0
  have k1' := (hb5.cell (block_lt_of_cell k1)).trans k1
  have k2' := (hb5.cell (block_lt_of_cell k2)).trans k2
  have k3' := (hb5.cell (block_lt_of_cell k3)).trans k3
  replace HB := Lib.hid (HB.out.trans (hb5.mono HB.out.size))
  clear k0 k1 k2 k3 hb5
  go_wp2_with (go_at_call 72; (with_reducible refine (HW.out _).mono ?_); rintro e' w6 ⟨rfl, hb6⟩)
  go_ret
  exact ⟨rfl, HB.out.trans (hb6.mono HB.out.size)⟩
end Go.Proofs.YtlhcejbimlilaaaGreatDoor
/- The document's number, Compare: walks (written by gen_vgc.py). -/
namespace Go.Proofs.YtlhcejbimlilaaaGreatDoor
open Go.RowKit Go.Tk
set_option maxHeartbeats 2000000 in
theorem num_3 (n lo hi s : ByteArray) (w : World) (p q r b : Bool) (D : ByteArray) (e : Int) (hd : ∀ w, Calls Tryz.prog 70 #[.string s, .int .i64 0] w fun e' w' => e' = .returned (.tuple #[.agg #[.bool p, .bool q, .bool r, .string D, .int .i64 e], .bool b]) ∧ Below w.heap.size w w') :
    Calls Tryz.prog 39 #[.agg #[.string n, .int .i64 3, .string lo, .string hi], .string s] w fun e' w' => e' = .returned (.tuple #[.agg #[.bool p, .bool q, .bool r, .string D, .int .i64 e], .bool b]) ∧ Below w.heap.size w w' := by
  have H := Lib.hid hd
  clear hd
  go_enter Tryz.func39, Tryz.ntmps39
  go_upto_region 1 with fail
  obtain ⟨r1, r2, hb⟩ := box2 w (.cells #[.string n, .int .i64 3, .string lo, .string hi] 48) (.cells #[.bool false, .bool false, .bool false, .string ⟨#[]⟩, .int .i64 0] 61)
  generalize World.alloc (World.alloc w _) _ = w2 at r1 r2 hb ⊢
  have k1 := row_cell r1 1
  simp at k1
  have HB := Lib.hid hb
  have R2 := Lib.hid r2
  clear hb r1 r2
  go_wp2_with (go_at_call 70; (with_reducible refine (H.out _).mono ?_); rintro e' w3 ⟨rfl, hb3⟩; (have r3 := (hb3.block _ (Array.getElem?_eq_some_iff.1 R2.out).1).trans R2.out); (have z0 := row_cell r3 0); (have z1 := row_cell r3 1); (have z2 := row_cell r3 2); (have z3 := row_cell r3 3); (have z4 := row_cell r3 4); (simp at z0 z1 z2 z3 z4); (have fz : ∀ i, w3.frozen? ⟨w.heap.size + 1, i, none⟩ = false := fun i => frozen_of_row _ _ _ _ _ r3); (have HB3 := Lib.hid hb3); clear hb3 r3)
  refine bodyPost_ret (v := .tuple #[.agg #[.bool p, .bool q, .bool r, .string D, .int .i64 e], .bool b]) (by simp [results, Tryz.results39, go_sem, z0, z1, z2, z3, z4]) rfl ⟨rfl, ?_⟩
  repeat (first | exact HB.out.trans (HB3.out.mono HB.out.size) | (with_reducible refine Below.setCell ?_ (by simp) _))
set_option maxHeartbeats 2000000 in
theorem num_4 (n lo hi s : ByteArray) (w : World) (p q r b : Bool) (D : ByteArray) (e : Int) (hd : ∀ w, Calls Tryz.prog 70 #[.string s, .int .i64 0] w fun e' w' => e' = .returned (.tuple #[.agg #[.bool p, .bool q, .bool r, .string D, .int .i64 e], .bool b]) ∧ Below w.heap.size w w') :
    Calls Tryz.prog 39 #[.agg #[.string n, .int .i64 4, .string lo, .string hi], .string s] w fun e' w' => e' = .returned (.tuple #[.agg #[.bool p, .bool q, .bool r, .string D, .int .i64 e], .bool b]) ∧ Below w.heap.size w w' := by
  have H := Lib.hid hd
  clear hd
  go_enter Tryz.func39, Tryz.ntmps39
  go_upto_region 1 with fail
  obtain ⟨r1, r2, hb⟩ := box2 w (.cells #[.string n, .int .i64 4, .string lo, .string hi] 48) (.cells #[.bool false, .bool false, .bool false, .string ⟨#[]⟩, .int .i64 0] 61)
  generalize World.alloc (World.alloc w _) _ = w2 at r1 r2 hb ⊢
  have k1 := row_cell r1 1
  simp at k1
  have HB := Lib.hid hb
  have R2 := Lib.hid r2
  clear hb r1 r2
  go_wp2_with (go_at_call 70; (with_reducible refine (H.out _).mono ?_); rintro e' w3 ⟨rfl, hb3⟩; (have r3 := (hb3.block _ (Array.getElem?_eq_some_iff.1 R2.out).1).trans R2.out); (have z0 := row_cell r3 0); (have z1 := row_cell r3 1); (have z2 := row_cell r3 2); (have z3 := row_cell r3 3); (have z4 := row_cell r3 4); (simp at z0 z1 z2 z3 z4); (have fz : ∀ i, w3.frozen? ⟨w.heap.size + 1, i, none⟩ = false := fun i => frozen_of_row _ _ _ _ _ r3); (have HB3 := Lib.hid hb3); clear hb3 r3)
  refine bodyPost_ret (v := .tuple #[.agg #[.bool p, .bool q, .bool r, .string D, .int .i64 e], .bool b]) (by simp [results, Tryz.results39, go_sem, z0, z1, z2, z3, z4]) rfl ⟨rfl, ?_⟩
  repeat (first | exact HB.out.trans (HB3.out.mono HB.out.size) | (with_reducible refine Below.setCell ?_ (by simp) _))
set_option maxHeartbeats 2000000 in
theorem num_5 (n lo hi s : ByteArray) (w : World) (p q r b : Bool) (D : ByteArray) (e : Int) (hd : ∀ w, Calls Tryz.prog 73 #[.string s] w fun e' w' => e' = .returned (.tuple #[.agg #[.bool p, .bool q, .bool r, .string D, .int .i64 e], .bool b]) ∧ Below w.heap.size w w') :
    Calls Tryz.prog 39 #[.agg #[.string n, .int .i64 5, .string lo, .string hi], .string s] w fun e' w' => e' = .returned (.tuple #[.agg #[.bool p, .bool q, .bool r, .string D, .int .i64 e], .bool b]) ∧ Below w.heap.size w w' := by
  have H := Lib.hid hd
  clear hd
  go_enter Tryz.func39, Tryz.ntmps39
  go_upto_region 1 with fail
  obtain ⟨r1, r2, hb⟩ := box2 w (.cells #[.string n, .int .i64 5, .string lo, .string hi] 48) (.cells #[.bool false, .bool false, .bool false, .string ⟨#[]⟩, .int .i64 0] 61)
  generalize World.alloc (World.alloc w _) _ = w2 at r1 r2 hb ⊢
  have k1 := row_cell r1 1
  simp at k1
  have HB := Lib.hid hb
  have R2 := Lib.hid r2
  clear hb r1 r2
  go_wp2_with (go_at_call 73; (with_reducible refine (H.out _).mono ?_); rintro e' w3 ⟨rfl, hb3⟩; (have r3 := (hb3.block _ (Array.getElem?_eq_some_iff.1 R2.out).1).trans R2.out); (have z0 := row_cell r3 0); (have z1 := row_cell r3 1); (have z2 := row_cell r3 2); (have z3 := row_cell r3 3); (have z4 := row_cell r3 4); (simp at z0 z1 z2 z3 z4); (have fz : ∀ i, w3.frozen? ⟨w.heap.size + 1, i, none⟩ = false := fun i => frozen_of_row _ _ _ _ _ r3); (have HB3 := Lib.hid hb3); clear hb3 r3)
  refine bodyPost_ret (v := .tuple #[.agg #[.bool p, .bool q, .bool r, .string D, .int .i64 e], .bool b]) (by simp [results, Tryz.results39, go_sem, z0, z1, z2, z3, z4]) rfl ⟨rfl, ?_⟩
  repeat (first | exact HB.out.trans (HB3.out.mono HB.out.size) | (with_reducible refine Below.setCell ?_ (by simp) _))
set_option maxHeartbeats 2000000 in
theorem num_no (n lo hi s : ByteArray) (l : Int) (w : World) (h3 : (l == 3) = false) (h4 : (l == 4) = false) (h5 : (l == 5) = false) :
    Calls Tryz.prog 39 #[.agg #[.string n, .int .i64 l, .string lo, .string hi], .string s] w fun e' w' => e' = .returned (.tuple #[.agg #[.bool false, .bool false, .bool false, .string ⟨#[]⟩, .int .i64 0], .bool false]) ∧ Below w.heap.size w w' := by
  go_enter Tryz.func39, Tryz.ntmps39
  go_upto_region 1 with fail
  obtain ⟨r1, r2, hb⟩ := box2 w (.cells #[.string n, .int .i64 l, .string lo, .string hi] 48) (.cells #[.bool false, .bool false, .bool false, .string ⟨#[]⟩, .int .i64 0] 61)
  generalize World.alloc (World.alloc w _) _ = w2 at r1 r2 hb ⊢
  have k1 := row_cell r1 1
  simp at k1
  have HB := Lib.hid hb
  have R2 := Lib.hid r2
  clear hb r1 r2
  have z0 := row_cell R2.out 0
  have z1 := row_cell R2.out 1
  have z2 := row_cell R2.out 2
  have z3 := row_cell R2.out 3
  have z4 := row_cell R2.out 4
  simp at z0 z1 z2 z3 z4
  have fz : ∀ i, w2.frozen? ⟨w.heap.size + 1, i, none⟩ = false := fun i => frozen_of_row _ _ _ _ _ R2.out
  go_wp2_with fail
  refine bodyPost_ret (v := .tuple #[.agg #[.bool false, .bool false, .bool false, .string ⟨#[]⟩, .int .i64 0], .bool false]) (by simp [results, Tryz.results39, go_sem, z0, z1, z2, z3, z4]) rfl ⟨rfl, ?_⟩
  repeat (first | exact HB.out | (with_reducible refine Below.setCell ?_ (by simp) _))
abbrev KnC (ty : ByteArray) (l : Int) (lo hi : ByteArray) : Prop := ∀ w, Calls Tryz.prog 25 #[.string ty] w fun e w' => ∃ n : ByteArray, e = .returned (.agg #[.string n, .int .i64 l, .string lo, .string hi]) ∧ Below w.heap.size w w'
abbrev CkC (ty x : ByteArray) (c : Int) : Prop := ∀ w, Calls Tryz.prog 14 #[.string ty, .string x] w fun e w' => e = .returned (.int .i64 c) ∧ Below w.heap.size w w'
abbrev NuC (l : Int) (lo hi x : ByteArray) (p q r : Bool) (D : ByteArray) (e : Int) (b : Bool) : Prop := ∀ (n : ByteArray) w, Calls Tryz.prog 39 #[.agg #[.string n, .int .i64 l, .string lo, .string hi], .string x] w fun e' w' => e' = .returned (.tuple #[.agg #[.bool p, .bool q, .bool r, .string D, .int .i64 e], .bool b]) ∧ Below w.heap.size w w'
abbrev TxC (a b : ByteArray) (v : Int) : Prop := ∀ w, Calls Tryz.prog 41 #[.string a, .string b] w fun e w' => e = .returned (.int .i64 v) ∧ w = w'
abbrev OwC (lo hi x U : ByteArray) : Prop := ∀ (n : ByteArray) w, Calls Tryz.prog 27 #[.agg #[.string n, .int .i64 2, .string lo, .string hi], .string x] w fun e w' => e = .returned (.tuple #[.string U, .int .i64 0]) ∧ Below w.heap.size w w'
abbrev VbC (F : Nat) (x : ByteArray) (z : List UInt8) : Prop := ∀ w, Calls Tryz.prog F #[.string x] w fun e w' => ∃ V, e = .returned (.tuple #[V, .bool true]) ∧ Below w.heap.size w w' ∧ Ow .u8 5 w.heap.size w' V (nums z)
abbrev RdC (lk : Int) (x : ByteArray) (P : Mo8 → Prop) : Prop := ∀ w, Calls Tryz.prog 44 #[.string x, .int .i64 lk] w fun e w' => ∃ mm : Mo8, e = .returned (.tuple #[.agg mm.cells, .bool true]) ∧ Below w.heap.size w w' ∧ P mm
theorem row_mv {w x : World} {g : Nat} {o : Obj} (R : Hid (w.heap[g]? = some o)) (h : Below w.heap.size w x) : Hid (x.heap[g]? = some o) := (h.block g (Array.getElem?_eq_some_iff.1 R.out).1).trans R.out
theorem bel_mv {w x y : World} (B : Hid (Below w.heap.size w x)) (h : Below x.heap.size x y) : Hid (Below w.heap.size w y) := B.out.trans (h.mono B.out.size)
theorem cp_after (wx : World) (cs z : Array Value) : (World.setRow (World.alloc wx (.cells z 69)) wx.heap.size cs).heap[wx.heap.size]? = some (.cells cs 69 (0, 0)) ∧ Below wx.heap.size wx (World.setRow (World.alloc wx (.cells z 69)) wx.heap.size cs) := by
  have rn := setRow_heap (World.alloc wx (.cells z 69)) wx.heap.size z cs _ _ (heap_alloc_new _ _)
  have ha : Below wx.heap.size wx (World.alloc wx (.cells z 69)) := (Below.refl _ _).alloc (Nat.le_refl _) _
  exact ⟨rn, ⟨ha.os, ha.tape, ha.output, by simp, fun k hk => (setRow_other _ _ k _ (by omega)).trans (ha.block k hk)⟩⟩
set_option maxRecDepth 100000 in
set_option maxHeartbeats 8000000 in
theorem cp_r0 (ka kb : Int) (xa ta la xb tb lb : ByteArray) (w : World) (l1 l2 : Int) (lo1 hi1 lo2 hi2 : ByteArray) (hk1 : KnC ta l1 lo1 hi1) (hk2 : KnC tb l2 lo2 hi2) (h : ka ≠ 3) :
    Calls Tryz.prog 18 #[.agg #[.int .i64 ka, .string xa, .string ta, .string la], .agg #[.int .i64 kb, .string xb, .string tb, .string lb]] w fun e w' => e = .returned (.tuple #[.int .i64 0, .bool false]) ∧ Below w.heap.size w w' := by
  have hb1 : (ka != 3) = true := bne_iff_ne.2 h
  clear h
  have HK1 := Lib.hid hk1
  have HK2 := Lib.hid hk2
  clear hk1 hk2
  go_enter Tryz.func18, Tryz.ntmps18
  go_upto_region 1 with fail
  obtain ⟨ra, rb, hb⟩ := box2 w (.cells #[.int .i64 ka, .string xa, .string ta, .string la] 33) (.cells #[.int .i64 kb, .string xb, .string tb, .string lb] 33)
  generalize World.alloc (World.alloc w _) _ = w2 at ra rb hb ⊢
  have RA := Lib.hid ra
  have RB := Lib.hid rb
  have B := Lib.hid hb
  clear ra rb hb
  have a2 := row_cell RA.out 2
  simp at a2
  go_upto_region 2 with (go_at_call 25; (with_reducible refine (HK1.out _).mono ?_); rintro e w3 ⟨n1, rfl, hb3⟩)
  clear a2
  obtain ⟨rk, hk⟩ := box1 w3 (.cells #[.string n1, .int .i64 l1, .string lo1, .string hi1] 48)
  generalize World.alloc w3 _ = w4 at rk hk ⊢
  have hb4 := hb3.trans (hk.mono hb3.size)
  replace RA := row_mv RA hb4
  replace RB := row_mv RB hb4
  replace B := bel_mv B hb4
  have RK := Lib.hid rk
  clear rk hk hb3 hb4
  have b2 := row_cell RB.out 2
  simp at b2
  go_upto_region 3 with (go_at_call 25; (with_reducible refine (HK2.out _).mono ?_); rintro e w5 ⟨n2, rfl, hb5⟩)
  clear b2
  obtain ⟨rl, hl⟩ := box1 w5 (.cells #[.string n2, .int .i64 l2, .string lo2, .string hi2] 48)
  generalize World.alloc w5 _ = w6 at rl hl ⊢
  have hb6 := hb5.trans (hl.mono hb5.size)
  replace RA := row_mv RA hb6
  replace RB := row_mv RB hb6
  replace RK := row_mv RK hb6
  replace B := bel_mv B hb6
  have RL := Lib.hid rl
  clear rl hl hb5 hb6
  have a0 := row_cell RA.out 0
  simp at a0
  have a1 := row_cell RA.out 1
  simp at a1
  have a2 := row_cell RA.out 2
  simp at a2
  have b0 := row_cell RB.out 0
  simp at b0
  have b1 := row_cell RB.out 1
  simp at b1
  have b2 := row_cell RB.out 2
  simp at b2
  have k1 := row_cell RK.out 1
  simp at k1
  have m1 := row_cell RL.out 1
  simp at m1
  go_wp2_with fail
  go_ret2
  exact ⟨rfl, B.out⟩
set_option maxRecDepth 100000 in
set_option maxHeartbeats 8000000 in
theorem cp_r1 (ka kb : Int) (xa ta la xb tb lb : ByteArray) (w : World) (l1 l2 : Int) (lo1 hi1 lo2 hi2 : ByteArray) (hk1 : KnC ta l1 lo1 hi1) (hk2 : KnC tb l2 lo2 hi2) (h1 : ka = 3) (h : kb ≠ 3) :
    Calls Tryz.prog 18 #[.agg #[.int .i64 ka, .string xa, .string ta, .string la], .agg #[.int .i64 kb, .string xb, .string tb, .string lb]] w fun e w' => e = .returned (.tuple #[.int .i64 0, .bool false]) ∧ Below w.heap.size w w' := by
  subst h1
  have hb1 : (kb != 3) = true := bne_iff_ne.2 h
  clear h
  have HK1 := Lib.hid hk1
  have HK2 := Lib.hid hk2
  clear hk1 hk2
  go_enter Tryz.func18, Tryz.ntmps18
  go_upto_region 1 with fail
  obtain ⟨ra, rb, hb⟩ := box2 w (.cells #[.int .i64 3, .string xa, .string ta, .string la] 33) (.cells #[.int .i64 kb, .string xb, .string tb, .string lb] 33)
  generalize World.alloc (World.alloc w _) _ = w2 at ra rb hb ⊢
  have RA := Lib.hid ra
  have RB := Lib.hid rb
  have B := Lib.hid hb
  clear ra rb hb
  have a2 := row_cell RA.out 2
  simp at a2
  go_upto_region 2 with (go_at_call 25; (with_reducible refine (HK1.out _).mono ?_); rintro e w3 ⟨n1, rfl, hb3⟩)
  clear a2
  obtain ⟨rk, hk⟩ := box1 w3 (.cells #[.string n1, .int .i64 l1, .string lo1, .string hi1] 48)
  generalize World.alloc w3 _ = w4 at rk hk ⊢
  have hb4 := hb3.trans (hk.mono hb3.size)
  replace RA := row_mv RA hb4
  replace RB := row_mv RB hb4
  replace B := bel_mv B hb4
  have RK := Lib.hid rk
  clear rk hk hb3 hb4
  have b2 := row_cell RB.out 2
  simp at b2
  go_upto_region 3 with (go_at_call 25; (with_reducible refine (HK2.out _).mono ?_); rintro e w5 ⟨n2, rfl, hb5⟩)
  clear b2
  obtain ⟨rl, hl⟩ := box1 w5 (.cells #[.string n2, .int .i64 l2, .string lo2, .string hi2] 48)
  generalize World.alloc w5 _ = w6 at rl hl ⊢
  have hb6 := hb5.trans (hl.mono hb5.size)
  replace RA := row_mv RA hb6
  replace RB := row_mv RB hb6
  replace RK := row_mv RK hb6
  replace B := bel_mv B hb6
  have RL := Lib.hid rl
  clear rl hl hb5 hb6
  have a0 := row_cell RA.out 0
  simp at a0
  have a1 := row_cell RA.out 1
  simp at a1
  have a2 := row_cell RA.out 2
  simp at a2
  have b0 := row_cell RB.out 0
  simp at b0
  have b1 := row_cell RB.out 1
  simp at b1
  have b2 := row_cell RB.out 2
  simp at b2
  have k1 := row_cell RK.out 1
  simp at k1
  have m1 := row_cell RL.out 1
  simp at m1
  go_wp2_with fail
  go_ret2
  exact ⟨rfl, B.out⟩
set_option maxRecDepth 100000 in
set_option maxHeartbeats 8000000 in
theorem cp_r2 (ka kb : Int) (xa ta la xb tb lb : ByteArray) (w : World) (l1 l2 : Int) (lo1 hi1 lo2 hi2 : ByteArray) (hk1 : KnC ta l1 lo1 hi1) (hk2 : KnC tb l2 lo2 hi2) (h1 : ka = 3) (h2 : kb = 3) (h : l1 = 0) :
    Calls Tryz.prog 18 #[.agg #[.int .i64 ka, .string xa, .string ta, .string la], .agg #[.int .i64 kb, .string xb, .string tb, .string lb]] w fun e w' => e = .returned (.tuple #[.int .i64 0, .bool false]) ∧ Below w.heap.size w w' := by
  subst h1 h2 h
  have HK1 := Lib.hid hk1
  have HK2 := Lib.hid hk2
  clear hk1 hk2
  go_enter Tryz.func18, Tryz.ntmps18
  go_upto_region 1 with fail
  obtain ⟨ra, rb, hb⟩ := box2 w (.cells #[.int .i64 3, .string xa, .string ta, .string la] 33) (.cells #[.int .i64 3, .string xb, .string tb, .string lb] 33)
  generalize World.alloc (World.alloc w _) _ = w2 at ra rb hb ⊢
  have RA := Lib.hid ra
  have RB := Lib.hid rb
  have B := Lib.hid hb
  clear ra rb hb
  have a2 := row_cell RA.out 2
  simp at a2
  go_upto_region 2 with (go_at_call 25; (with_reducible refine (HK1.out _).mono ?_); rintro e w3 ⟨n1, rfl, hb3⟩)
  clear a2
  obtain ⟨rk, hk⟩ := box1 w3 (.cells #[.string n1, .int .i64 0, .string lo1, .string hi1] 48)
  generalize World.alloc w3 _ = w4 at rk hk ⊢
  have hb4 := hb3.trans (hk.mono hb3.size)
  replace RA := row_mv RA hb4
  replace RB := row_mv RB hb4
  replace B := bel_mv B hb4
  have RK := Lib.hid rk
  clear rk hk hb3 hb4
  have b2 := row_cell RB.out 2
  simp at b2
  go_upto_region 3 with (go_at_call 25; (with_reducible refine (HK2.out _).mono ?_); rintro e w5 ⟨n2, rfl, hb5⟩)
  clear b2
  obtain ⟨rl, hl⟩ := box1 w5 (.cells #[.string n2, .int .i64 l2, .string lo2, .string hi2] 48)
  generalize World.alloc w5 _ = w6 at rl hl ⊢
  have hb6 := hb5.trans (hl.mono hb5.size)
  replace RA := row_mv RA hb6
  replace RB := row_mv RB hb6
  replace RK := row_mv RK hb6
  replace B := bel_mv B hb6
  have RL := Lib.hid rl
  clear rl hl hb5 hb6
  have a0 := row_cell RA.out 0
  simp at a0
  have a1 := row_cell RA.out 1
  simp at a1
  have a2 := row_cell RA.out 2
  simp at a2
  have b0 := row_cell RB.out 0
  simp at b0
  have b1 := row_cell RB.out 1
  simp at b1
  have b2 := row_cell RB.out 2
  simp at b2
  have k1 := row_cell RK.out 1
  simp at k1
  have m1 := row_cell RL.out 1
  simp at m1
  go_wp2_with fail
  go_ret2
  exact ⟨rfl, B.out⟩
set_option maxRecDepth 100000 in
set_option maxHeartbeats 8000000 in
theorem cp_r3 (ka kb : Int) (xa ta la xb tb lb : ByteArray) (w : World) (l1 l2 : Int) (lo1 hi1 lo2 hi2 : ByteArray) (hk1 : KnC ta l1 lo1 hi1) (hk2 : KnC tb l2 lo2 hi2) (h1 : ka = 3) (h2 : kb = 3) (h3 : l1 ≠ 0) (h : l2 = 0) :
    Calls Tryz.prog 18 #[.agg #[.int .i64 ka, .string xa, .string ta, .string la], .agg #[.int .i64 kb, .string xb, .string tb, .string lb]] w fun e w' => e = .returned (.tuple #[.int .i64 0, .bool false]) ∧ Below w.heap.size w w' := by
  subst h1 h2 h
  have hb1 : (l1 == 0) = false := beq_false_of_ne h3
  clear h3
  have HK1 := Lib.hid hk1
  have HK2 := Lib.hid hk2
  clear hk1 hk2
  go_enter Tryz.func18, Tryz.ntmps18
  go_upto_region 1 with fail
  obtain ⟨ra, rb, hb⟩ := box2 w (.cells #[.int .i64 3, .string xa, .string ta, .string la] 33) (.cells #[.int .i64 3, .string xb, .string tb, .string lb] 33)
  generalize World.alloc (World.alloc w _) _ = w2 at ra rb hb ⊢
  have RA := Lib.hid ra
  have RB := Lib.hid rb
  have B := Lib.hid hb
  clear ra rb hb
  have a2 := row_cell RA.out 2
  simp at a2
  go_upto_region 2 with (go_at_call 25; (with_reducible refine (HK1.out _).mono ?_); rintro e w3 ⟨n1, rfl, hb3⟩)
  clear a2
  obtain ⟨rk, hk⟩ := box1 w3 (.cells #[.string n1, .int .i64 l1, .string lo1, .string hi1] 48)
  generalize World.alloc w3 _ = w4 at rk hk ⊢
  have hb4 := hb3.trans (hk.mono hb3.size)
  replace RA := row_mv RA hb4
  replace RB := row_mv RB hb4
  replace B := bel_mv B hb4
  have RK := Lib.hid rk
  clear rk hk hb3 hb4
  have b2 := row_cell RB.out 2
  simp at b2
  go_upto_region 3 with (go_at_call 25; (with_reducible refine (HK2.out _).mono ?_); rintro e w5 ⟨n2, rfl, hb5⟩)
  clear b2
  obtain ⟨rl, hl⟩ := box1 w5 (.cells #[.string n2, .int .i64 0, .string lo2, .string hi2] 48)
  generalize World.alloc w5 _ = w6 at rl hl ⊢
  have hb6 := hb5.trans (hl.mono hb5.size)
  replace RA := row_mv RA hb6
  replace RB := row_mv RB hb6
  replace RK := row_mv RK hb6
  replace B := bel_mv B hb6
  have RL := Lib.hid rl
  clear rl hl hb5 hb6
  have a0 := row_cell RA.out 0
  simp at a0
  have a1 := row_cell RA.out 1
  simp at a1
  have a2 := row_cell RA.out 2
  simp at a2
  have b0 := row_cell RB.out 0
  simp at b0
  have b1 := row_cell RB.out 1
  simp at b1
  have b2 := row_cell RB.out 2
  simp at b2
  have k1 := row_cell RK.out 1
  simp at k1
  have m1 := row_cell RL.out 1
  simp at m1
  go_wp2_with fail
  go_ret2
  exact ⟨rfl, B.out⟩
set_option maxRecDepth 100000 in
set_option maxHeartbeats 8000000 in
theorem cp_r4 (ka kb : Int) (xa ta la xb tb lb : ByteArray) (w : World) (l1 l2 : Int) (lo1 hi1 lo2 hi2 : ByteArray) (hk1 : KnC ta l1 lo1 hi1) (hk2 : KnC tb l2 lo2 hi2) (h1 : ka = 3) (h2 : kb = 3) (h3 : l1 ≠ 0) (h4 : l2 ≠ 0) (c1 : Int) (hc1 : CkC ta xa c1) (h : c1 ≠ 0) :
    Calls Tryz.prog 18 #[.agg #[.int .i64 ka, .string xa, .string ta, .string la], .agg #[.int .i64 kb, .string xb, .string tb, .string lb]] w fun e w' => e = .returned (.tuple #[.int .i64 0, .bool false]) ∧ Below w.heap.size w w' := by
  subst h1 h2
  have hb1 : (l1 == 0) = false := beq_false_of_ne h3
  have hb2 : (l2 == 0) = false := beq_false_of_ne h4
  have hb3 : (c1 != 0) = true := bne_iff_ne.2 h
  have HC1 := Lib.hid hc1
  clear h h3 h4 hc1
  have HK1 := Lib.hid hk1
  have HK2 := Lib.hid hk2
  clear hk1 hk2
  go_enter Tryz.func18, Tryz.ntmps18
  go_upto_region 1 with fail
  obtain ⟨ra, rb, hb⟩ := box2 w (.cells #[.int .i64 3, .string xa, .string ta, .string la] 33) (.cells #[.int .i64 3, .string xb, .string tb, .string lb] 33)
  generalize World.alloc (World.alloc w _) _ = w2 at ra rb hb ⊢
  have RA := Lib.hid ra
  have RB := Lib.hid rb
  have B := Lib.hid hb
  clear ra rb hb
  have a2 := row_cell RA.out 2
  simp at a2
  go_upto_region 2 with (go_at_call 25; (with_reducible refine (HK1.out _).mono ?_); rintro e w3 ⟨n1, rfl, hb3⟩)
  clear a2
  obtain ⟨rk, hk⟩ := box1 w3 (.cells #[.string n1, .int .i64 l1, .string lo1, .string hi1] 48)
  generalize World.alloc w3 _ = w4 at rk hk ⊢
  have hb4 := hb3.trans (hk.mono hb3.size)
  replace RA := row_mv RA hb4
  replace RB := row_mv RB hb4
  replace B := bel_mv B hb4
  have RK := Lib.hid rk
  clear rk hk hb3 hb4
  have b2 := row_cell RB.out 2
  simp at b2
  go_upto_region 3 with (go_at_call 25; (with_reducible refine (HK2.out _).mono ?_); rintro e w5 ⟨n2, rfl, hb5⟩)
  clear b2
  obtain ⟨rl, hl⟩ := box1 w5 (.cells #[.string n2, .int .i64 l2, .string lo2, .string hi2] 48)
  generalize World.alloc w5 _ = w6 at rl hl ⊢
  have hb6 := hb5.trans (hl.mono hb5.size)
  replace RA := row_mv RA hb6
  replace RB := row_mv RB hb6
  replace RK := row_mv RK hb6
  replace B := bel_mv B hb6
  have RL := Lib.hid rl
  clear rl hl hb5 hb6
  have a0 := row_cell RA.out 0
  simp at a0
  have a1 := row_cell RA.out 1
  simp at a1
  have a2 := row_cell RA.out 2
  simp at a2
  have b0 := row_cell RB.out 0
  simp at b0
  have b1 := row_cell RB.out 1
  simp at b1
  have b2 := row_cell RB.out 2
  simp at b2
  have k1 := row_cell RK.out 1
  simp at k1
  have m1 := row_cell RL.out 1
  simp at m1
  go_wp2_with (go_at_call 14; (with_reducible refine (HC1.out _).mono ?_); rintro e w7 ⟨rfl, hb7⟩; (have rb7 := row_mv RB hb7); (have b71 := row_cell rb7.out 1); (have b72 := row_cell rb7.out 2); (simp at b71 b72); clear rb7)
  go_ret2
  exact ⟨rfl, B.out.trans (hb7.mono B.out.size)⟩
set_option maxRecDepth 100000 in
set_option maxHeartbeats 8000000 in
theorem cp_r5 (ka kb : Int) (xa ta la xb tb lb : ByteArray) (w : World) (l1 l2 : Int) (lo1 hi1 lo2 hi2 : ByteArray) (hk1 : KnC ta l1 lo1 hi1) (hk2 : KnC tb l2 lo2 hi2) (h1 : ka = 3) (h2 : kb = 3) (h3 : l1 ≠ 0) (h4 : l2 ≠ 0) (c2 : Int) (hc1 : CkC ta xa 0) (hc2 : CkC tb xb c2) (h : c2 ≠ 0) :
    Calls Tryz.prog 18 #[.agg #[.int .i64 ka, .string xa, .string ta, .string la], .agg #[.int .i64 kb, .string xb, .string tb, .string lb]] w fun e w' => e = .returned (.tuple #[.int .i64 0, .bool false]) ∧ Below w.heap.size w w' := by
  subst h1 h2
  have hb1 : (l1 == 0) = false := beq_false_of_ne h3
  have hb2 : (l2 == 0) = false := beq_false_of_ne h4
  have hb3 : (c2 != 0) = true := bne_iff_ne.2 h
  have HC1 := Lib.hid hc1
  have HC2 := Lib.hid hc2
  clear h h3 h4 hc1 hc2
  have HK1 := Lib.hid hk1
  have HK2 := Lib.hid hk2
  clear hk1 hk2
  go_enter Tryz.func18, Tryz.ntmps18
  go_upto_region 1 with fail
  obtain ⟨ra, rb, hb⟩ := box2 w (.cells #[.int .i64 3, .string xa, .string ta, .string la] 33) (.cells #[.int .i64 3, .string xb, .string tb, .string lb] 33)
  generalize World.alloc (World.alloc w _) _ = w2 at ra rb hb ⊢
  have RA := Lib.hid ra
  have RB := Lib.hid rb
  have B := Lib.hid hb
  clear ra rb hb
  have a2 := row_cell RA.out 2
  simp at a2
  go_upto_region 2 with (go_at_call 25; (with_reducible refine (HK1.out _).mono ?_); rintro e w3 ⟨n1, rfl, hb3⟩)
  clear a2
  obtain ⟨rk, hk⟩ := box1 w3 (.cells #[.string n1, .int .i64 l1, .string lo1, .string hi1] 48)
  generalize World.alloc w3 _ = w4 at rk hk ⊢
  have hb4 := hb3.trans (hk.mono hb3.size)
  replace RA := row_mv RA hb4
  replace RB := row_mv RB hb4
  replace B := bel_mv B hb4
  have RK := Lib.hid rk
  clear rk hk hb3 hb4
  have b2 := row_cell RB.out 2
  simp at b2
  go_upto_region 3 with (go_at_call 25; (with_reducible refine (HK2.out _).mono ?_); rintro e w5 ⟨n2, rfl, hb5⟩)
  clear b2
  obtain ⟨rl, hl⟩ := box1 w5 (.cells #[.string n2, .int .i64 l2, .string lo2, .string hi2] 48)
  generalize World.alloc w5 _ = w6 at rl hl ⊢
  have hb6 := hb5.trans (hl.mono hb5.size)
  replace RA := row_mv RA hb6
  replace RB := row_mv RB hb6
  replace RK := row_mv RK hb6
  replace B := bel_mv B hb6
  have RL := Lib.hid rl
  clear rl hl hb5 hb6
  have a0 := row_cell RA.out 0
  simp at a0
  have a1 := row_cell RA.out 1
  simp at a1
  have a2 := row_cell RA.out 2
  simp at a2
  have b0 := row_cell RB.out 0
  simp at b0
  have b1 := row_cell RB.out 1
  simp at b1
  have b2 := row_cell RB.out 2
  simp at b2
  have k1 := row_cell RK.out 1
  simp at k1
  have m1 := row_cell RL.out 1
  simp at m1
  go_wp2_with (first | (go_at_call 14; (with_reducible refine (HC1.out _).mono ?_); rintro e w7 ⟨rfl, hb7⟩; (have rb7 := row_mv RB hb7); (have b71 := row_cell rb7.out 1); (have b72 := row_cell rb7.out 2); (simp at b71 b72); clear rb7) | (go_at_call 14; (with_reducible refine (HC2.out _).mono ?_); rintro e w8 ⟨rfl, hb8⟩))
  go_ret2
  have q7 := B.out.trans (hb7.mono B.out.size)
  exact ⟨rfl, q7.trans (hb8.mono q7.size)⟩
set_option maxRecDepth 100000 in
set_option maxHeartbeats 8000000 in
theorem cp_nan1 (xa ta la xb tb lb : ByteArray) (w : World) (l1 l2 : Int) (lo1 hi1 lo2 hi2 : ByteArray) (hk1 : KnC ta l1 lo1 hi1) (hk2 : KnC tb l2 lo2 hi2) (h3 : l1 ≠ 0) (h4 : l2 ≠ 0) (hc1 : CkC ta xa 0) (hc2 : CkC tb xb 0) (q1 r1 : Bool) (D1 : ByteArray) (e1 : Int) (p2 q2 r2 : Bool) (D2 : ByteArray) (e2 : Int) (hn1 : NuC l1 lo1 hi1 xa true q1 r1 D1 e1 true) (hn2 : NuC l2 lo2 hi2 xb p2 q2 r2 D2 e2 true) :
    Calls Tryz.prog 18 #[.agg #[.int .i64 3, .string xa, .string ta, .string la], .agg #[.int .i64 3, .string xb, .string tb, .string lb]] w fun e w' => e = .returned (.tuple #[.int .i64 0, .bool false]) ∧ Below w.heap.size w w' := by
  have hz1 : (l1 == 0) = false := beq_false_of_ne h3
  have hz2 : (l2 == 0) = false := beq_false_of_ne h4
  have HC1 := Lib.hid hc1
  have HC2 := Lib.hid hc2
  clear h3 h4 hc1 hc2
  have HK1 := Lib.hid hk1
  have HK2 := Lib.hid hk2
  clear hk1 hk2
  have HN1 := Lib.hid hn1
  have HN2 := Lib.hid hn2
  clear hn1 hn2
  go_enter Tryz.func18, Tryz.ntmps18
  go_upto_region 1 with fail
  obtain ⟨ra, rb, hb⟩ := box2 w (.cells #[.int .i64 3, .string xa, .string ta, .string la] 33) (.cells #[.int .i64 3, .string xb, .string tb, .string lb] 33)
  generalize World.alloc (World.alloc w _) _ = w2 at ra rb hb ⊢
  have RA := Lib.hid ra
  have RB := Lib.hid rb
  have B := Lib.hid hb
  clear ra rb hb
  have a2 := row_cell RA.out 2
  simp at a2
  go_upto_region 2 with (go_at_call 25; (with_reducible refine (HK1.out _).mono ?_); rintro e w3 ⟨n1, rfl, hb3⟩)
  clear a2
  obtain ⟨rk, hk⟩ := box1 w3 (.cells #[.string n1, .int .i64 l1, .string lo1, .string hi1] 48)
  generalize World.alloc w3 _ = w4 at rk hk ⊢
  have hb4 := hb3.trans (hk.mono hb3.size)
  replace RA := row_mv RA hb4
  replace RB := row_mv RB hb4
  replace B := bel_mv B hb4
  have RK := Lib.hid rk
  clear rk hk hb3 hb4
  have b2 := row_cell RB.out 2
  simp at b2
  go_upto_region 3 with (go_at_call 25; (with_reducible refine (HK2.out _).mono ?_); rintro e w5 ⟨n2, rfl, hb5⟩)
  clear b2
  obtain ⟨rl, hl⟩ := box1 w5 (.cells #[.string n2, .int .i64 l2, .string lo2, .string hi2] 48)
  generalize World.alloc w5 _ = w6 at rl hl ⊢
  have hb6 := hb5.trans (hl.mono hb5.size)
  replace RA := row_mv RA hb6
  replace RB := row_mv RB hb6
  replace RK := row_mv RK hb6
  replace B := bel_mv B hb6
  have RL := Lib.hid rl
  clear rl hl hb5 hb6
  have a0 := row_cell RA.out 0
  simp at a0
  have a1 := row_cell RA.out 1
  simp at a1
  have a2 := row_cell RA.out 2
  simp at a2
  have b0 := row_cell RB.out 0
  simp at b0
  have b1 := row_cell RB.out 1
  simp at b1
  have b2 := row_cell RB.out 2
  simp at b2
  have k1 := row_cell RK.out 1
  simp at k1
  have m1 := row_cell RL.out 1
  simp at m1
  go_upto_region 5 with (first | (go_at_call 14; (with_reducible refine (HC1.out _).mono ?_); rintro e w7 ⟨rfl, hb7⟩; (have rb7 := row_mv RB hb7); (have b71 := row_cell rb7.out 1); (have b72 := row_cell rb7.out 2); (simp at b71 b72); clear rb7) | (go_at_call 14; (with_reducible refine (HC2.out _).mono ?_); rintro e w8 ⟨rfl, hb8⟩))
  have hb9 := hb7.trans (hb8.mono hb7.size)
  clear a0 a1 a2 b0 b1 b2 k1 m1
  clear b71 b72
  replace RA := row_mv RA hb9
  replace RB := row_mv RB hb9
  replace RK := row_mv RK hb9
  replace RL := row_mv RL hb9
  replace B := bel_mv B hb9
  clear hb7 hb8 hb9
  have a1 := row_cell RA.out 1
  simp at a1
  have y0 := row_cell RK.out 0
  have y1 := row_cell RK.out 1
  have y2 := row_cell RK.out 2
  have y3 := row_cell RK.out 3
  simp at y0 y1 y2 y3
  go_upto_region 6 with (go_at_call 39; (with_reducible refine (HN1.out _ _).mono ?_); rintro e w11 ⟨rfl, hb11⟩)
  clear a1 y0 y1 y2 y3
  obtain ⟨rn, hn⟩ := box1 w11 (.cells #[.bool true, .bool q1, .bool r1, .string D1, .int .i64 e1] 61)
  generalize World.alloc w11 _ = w12 at rn hn ⊢
  have hbn := hb11.trans (hn.mono hb11.size)
  replace RA := row_mv RA hbn
  replace RB := row_mv RB hbn
  replace RK := row_mv RK hbn
  replace RL := row_mv RL hbn
  replace B := bel_mv B hbn
  have RN1 := Lib.hid rn
  clear rn hn hb11 hbn
  have a1 := row_cell RB.out 1
  simp at a1
  have y0 := row_cell RL.out 0
  have y1 := row_cell RL.out 1
  have y2 := row_cell RL.out 2
  have y3 := row_cell RL.out 3
  simp at y0 y1 y2 y3
  go_upto_region 7 with (go_at_call 39; (with_reducible refine (HN2.out _ _).mono ?_); rintro e w13 ⟨rfl, hb13⟩)
  clear a1 y0 y1 y2 y3
  obtain ⟨rn, hn⟩ := box1 w13 (.cells #[.bool p2, .bool q2, .bool r2, .string D2, .int .i64 e2] 61)
  generalize World.alloc w13 _ = w14 at rn hn ⊢
  have hbn := hb13.trans (hn.mono hb13.size)
  replace RA := row_mv RA hbn
  replace RB := row_mv RB hbn
  replace RK := row_mv RK hbn
  replace RL := row_mv RL hbn
  replace RN1 := row_mv RN1 hbn
  replace B := bel_mv B hbn
  have RN2 := Lib.hid rn
  clear rn hn hb13 hbn
  have n10 := row_cell RN1.out 0
  have n11 := row_cell RN1.out 1
  have n12 := row_cell RN1.out 2
  have n13 := row_cell RN1.out 3
  have n14 := row_cell RN1.out 4
  simp at n10 n11 n12 n13 n14
  have n20 := row_cell RN2.out 0
  have n21 := row_cell RN2.out 1
  have n22 := row_cell RN2.out 2
  have n23 := row_cell RN2.out 3
  have n24 := row_cell RN2.out 4
  simp at n20 n21 n22 n23 n24
  go_wp2_with fail
  go_ret2
  exact ⟨rfl, B.out⟩
set_option maxRecDepth 100000 in
set_option maxHeartbeats 8000000 in
theorem cp_nan2 (xa ta la xb tb lb : ByteArray) (w : World) (l1 l2 : Int) (lo1 hi1 lo2 hi2 : ByteArray) (hk1 : KnC ta l1 lo1 hi1) (hk2 : KnC tb l2 lo2 hi2) (h3 : l1 ≠ 0) (h4 : l2 ≠ 0) (hc1 : CkC ta xa 0) (hc2 : CkC tb xb 0) (q1 r1 : Bool) (D1 : ByteArray) (e1 : Int) (q2 r2 : Bool) (D2 : ByteArray) (e2 : Int) (hn1 : NuC l1 lo1 hi1 xa false q1 r1 D1 e1 true) (hn2 : NuC l2 lo2 hi2 xb true q2 r2 D2 e2 true) :
    Calls Tryz.prog 18 #[.agg #[.int .i64 3, .string xa, .string ta, .string la], .agg #[.int .i64 3, .string xb, .string tb, .string lb]] w fun e w' => e = .returned (.tuple #[.int .i64 0, .bool false]) ∧ Below w.heap.size w w' := by
  have hz1 : (l1 == 0) = false := beq_false_of_ne h3
  have hz2 : (l2 == 0) = false := beq_false_of_ne h4
  have HC1 := Lib.hid hc1
  have HC2 := Lib.hid hc2
  clear h3 h4 hc1 hc2
  have HK1 := Lib.hid hk1
  have HK2 := Lib.hid hk2
  clear hk1 hk2
  have HN1 := Lib.hid hn1
  have HN2 := Lib.hid hn2
  clear hn1 hn2
  go_enter Tryz.func18, Tryz.ntmps18
  go_upto_region 1 with fail
  obtain ⟨ra, rb, hb⟩ := box2 w (.cells #[.int .i64 3, .string xa, .string ta, .string la] 33) (.cells #[.int .i64 3, .string xb, .string tb, .string lb] 33)
  generalize World.alloc (World.alloc w _) _ = w2 at ra rb hb ⊢
  have RA := Lib.hid ra
  have RB := Lib.hid rb
  have B := Lib.hid hb
  clear ra rb hb
  have a2 := row_cell RA.out 2
  simp at a2
  go_upto_region 2 with (go_at_call 25; (with_reducible refine (HK1.out _).mono ?_); rintro e w3 ⟨n1, rfl, hb3⟩)
  clear a2
  obtain ⟨rk, hk⟩ := box1 w3 (.cells #[.string n1, .int .i64 l1, .string lo1, .string hi1] 48)
  generalize World.alloc w3 _ = w4 at rk hk ⊢
  have hb4 := hb3.trans (hk.mono hb3.size)
  replace RA := row_mv RA hb4
  replace RB := row_mv RB hb4
  replace B := bel_mv B hb4
  have RK := Lib.hid rk
  clear rk hk hb3 hb4
  have b2 := row_cell RB.out 2
  simp at b2
  go_upto_region 3 with (go_at_call 25; (with_reducible refine (HK2.out _).mono ?_); rintro e w5 ⟨n2, rfl, hb5⟩)
  clear b2
  obtain ⟨rl, hl⟩ := box1 w5 (.cells #[.string n2, .int .i64 l2, .string lo2, .string hi2] 48)
  generalize World.alloc w5 _ = w6 at rl hl ⊢
  have hb6 := hb5.trans (hl.mono hb5.size)
  replace RA := row_mv RA hb6
  replace RB := row_mv RB hb6
  replace RK := row_mv RK hb6
  replace B := bel_mv B hb6
  have RL := Lib.hid rl
  clear rl hl hb5 hb6
  have a0 := row_cell RA.out 0
  simp at a0
  have a1 := row_cell RA.out 1
  simp at a1
  have a2 := row_cell RA.out 2
  simp at a2
  have b0 := row_cell RB.out 0
  simp at b0
  have b1 := row_cell RB.out 1
  simp at b1
  have b2 := row_cell RB.out 2
  simp at b2
  have k1 := row_cell RK.out 1
  simp at k1
  have m1 := row_cell RL.out 1
  simp at m1
  go_upto_region 5 with (first | (go_at_call 14; (with_reducible refine (HC1.out _).mono ?_); rintro e w7 ⟨rfl, hb7⟩; (have rb7 := row_mv RB hb7); (have b71 := row_cell rb7.out 1); (have b72 := row_cell rb7.out 2); (simp at b71 b72); clear rb7) | (go_at_call 14; (with_reducible refine (HC2.out _).mono ?_); rintro e w8 ⟨rfl, hb8⟩))
  have hb9 := hb7.trans (hb8.mono hb7.size)
  clear a0 a1 a2 b0 b1 b2 k1 m1
  clear b71 b72
  replace RA := row_mv RA hb9
  replace RB := row_mv RB hb9
  replace RK := row_mv RK hb9
  replace RL := row_mv RL hb9
  replace B := bel_mv B hb9
  clear hb7 hb8 hb9
  have a1 := row_cell RA.out 1
  simp at a1
  have y0 := row_cell RK.out 0
  have y1 := row_cell RK.out 1
  have y2 := row_cell RK.out 2
  have y3 := row_cell RK.out 3
  simp at y0 y1 y2 y3
  go_upto_region 6 with (go_at_call 39; (with_reducible refine (HN1.out _ _).mono ?_); rintro e w11 ⟨rfl, hb11⟩)
  clear a1 y0 y1 y2 y3
  obtain ⟨rn, hn⟩ := box1 w11 (.cells #[.bool false, .bool q1, .bool r1, .string D1, .int .i64 e1] 61)
  generalize World.alloc w11 _ = w12 at rn hn ⊢
  have hbn := hb11.trans (hn.mono hb11.size)
  replace RA := row_mv RA hbn
  replace RB := row_mv RB hbn
  replace RK := row_mv RK hbn
  replace RL := row_mv RL hbn
  replace B := bel_mv B hbn
  have RN1 := Lib.hid rn
  clear rn hn hb11 hbn
  have a1 := row_cell RB.out 1
  simp at a1
  have y0 := row_cell RL.out 0
  have y1 := row_cell RL.out 1
  have y2 := row_cell RL.out 2
  have y3 := row_cell RL.out 3
  simp at y0 y1 y2 y3
  go_upto_region 7 with (go_at_call 39; (with_reducible refine (HN2.out _ _).mono ?_); rintro e w13 ⟨rfl, hb13⟩)
  clear a1 y0 y1 y2 y3
  obtain ⟨rn, hn⟩ := box1 w13 (.cells #[.bool true, .bool q2, .bool r2, .string D2, .int .i64 e2] 61)
  generalize World.alloc w13 _ = w14 at rn hn ⊢
  have hbn := hb13.trans (hn.mono hb13.size)
  replace RA := row_mv RA hbn
  replace RB := row_mv RB hbn
  replace RK := row_mv RK hbn
  replace RL := row_mv RL hbn
  replace RN1 := row_mv RN1 hbn
  replace B := bel_mv B hbn
  have RN2 := Lib.hid rn
  clear rn hn hb13 hbn
  have n10 := row_cell RN1.out 0
  have n11 := row_cell RN1.out 1
  have n12 := row_cell RN1.out 2
  have n13 := row_cell RN1.out 3
  have n14 := row_cell RN1.out 4
  simp at n10 n11 n12 n13 n14
  have n20 := row_cell RN2.out 0
  have n21 := row_cell RN2.out 1
  have n22 := row_cell RN2.out 2
  have n23 := row_cell RN2.out 3
  have n24 := row_cell RN2.out 4
  simp at n20 n21 n22 n23 n24
  go_wp2_with fail
  go_ret2
  exact ⟨rfl, B.out⟩
set_option maxRecDepth 100000 in
set_option maxHeartbeats 8000000 in
theorem cp_num (xa ta la xb tb lb : ByteArray) (w : World) (l1 l2 : Int) (lo1 hi1 lo2 hi2 : ByteArray) (hk1 : KnC ta l1 lo1 hi1) (hk2 : KnC tb l2 lo2 hi2) (h3 : l1 ≠ 0) (h4 : l2 ≠ 0) (hc1 : CkC ta xa 0) (hc2 : CkC tb xb 0) (q1 r1 : Bool) (D1 : ByteArray) (e1 : Int) (q2 r2 : Bool) (D2 : ByteArray) (e2 : Int) (hn1 : NuC l1 lo1 hi1 xa false q1 r1 D1 e1 true) (hn2 : NuC l2 lo2 hi2 xb false q2 r2 D2 e2 true) (c : Int) (ho : ∀ w, Calls Tryz.prog 40 #[.agg #[.bool false, .bool q1, .bool r1, .string D1, .int .i64 e1], .agg #[.bool false, .bool q2, .bool r2, .string D2, .int .i64 e2]] w fun e w' => e = .returned (.int .i64 c) ∧ Below w.heap.size w w') :
    Calls Tryz.prog 18 #[.agg #[.int .i64 3, .string xa, .string ta, .string la], .agg #[.int .i64 3, .string xb, .string tb, .string lb]] w fun e w' => e = .returned (.tuple #[.int .i64 c, .bool true]) ∧ Below w.heap.size w w' := by
  have hz1 : (l1 == 0) = false := beq_false_of_ne h3
  have hz2 : (l2 == 0) = false := beq_false_of_ne h4
  have HC1 := Lib.hid hc1
  have HC2 := Lib.hid hc2
  clear h3 h4 hc1 hc2
  have HK1 := Lib.hid hk1
  have HK2 := Lib.hid hk2
  clear hk1 hk2
  have HN1 := Lib.hid hn1
  have HN2 := Lib.hid hn2
  clear hn1 hn2
  have HO := Lib.hid ho
  clear ho
  go_enter Tryz.func18, Tryz.ntmps18
  go_upto_region 1 with fail
  obtain ⟨ra, rb, hb⟩ := box2 w (.cells #[.int .i64 3, .string xa, .string ta, .string la] 33) (.cells #[.int .i64 3, .string xb, .string tb, .string lb] 33)
  generalize World.alloc (World.alloc w _) _ = w2 at ra rb hb ⊢
  have RA := Lib.hid ra
  have RB := Lib.hid rb
  have B := Lib.hid hb
  clear ra rb hb
  have a2 := row_cell RA.out 2
  simp at a2
  go_upto_region 2 with (go_at_call 25; (with_reducible refine (HK1.out _).mono ?_); rintro e w3 ⟨n1, rfl, hb3⟩)
  clear a2
  obtain ⟨rk, hk⟩ := box1 w3 (.cells #[.string n1, .int .i64 l1, .string lo1, .string hi1] 48)
  generalize World.alloc w3 _ = w4 at rk hk ⊢
  have hb4 := hb3.trans (hk.mono hb3.size)
  replace RA := row_mv RA hb4
  replace RB := row_mv RB hb4
  replace B := bel_mv B hb4
  have RK := Lib.hid rk
  clear rk hk hb3 hb4
  have b2 := row_cell RB.out 2
  simp at b2
  go_upto_region 3 with (go_at_call 25; (with_reducible refine (HK2.out _).mono ?_); rintro e w5 ⟨n2, rfl, hb5⟩)
  clear b2
  obtain ⟨rl, hl⟩ := box1 w5 (.cells #[.string n2, .int .i64 l2, .string lo2, .string hi2] 48)
  generalize World.alloc w5 _ = w6 at rl hl ⊢
  have hb6 := hb5.trans (hl.mono hb5.size)
  replace RA := row_mv RA hb6
  replace RB := row_mv RB hb6
  replace RK := row_mv RK hb6
  replace B := bel_mv B hb6
  have RL := Lib.hid rl
  clear rl hl hb5 hb6
  have a0 := row_cell RA.out 0
  simp at a0
  have a1 := row_cell RA.out 1
  simp at a1
  have a2 := row_cell RA.out 2
  simp at a2
  have b0 := row_cell RB.out 0
  simp at b0
  have b1 := row_cell RB.out 1
  simp at b1
  have b2 := row_cell RB.out 2
  simp at b2
  have k1 := row_cell RK.out 1
  simp at k1
  have m1 := row_cell RL.out 1
  simp at m1
  go_upto_region 5 with (first | (go_at_call 14; (with_reducible refine (HC1.out _).mono ?_); rintro e w7 ⟨rfl, hb7⟩; (have rb7 := row_mv RB hb7); (have b71 := row_cell rb7.out 1); (have b72 := row_cell rb7.out 2); (simp at b71 b72); clear rb7) | (go_at_call 14; (with_reducible refine (HC2.out _).mono ?_); rintro e w8 ⟨rfl, hb8⟩))
  have hb9 := hb7.trans (hb8.mono hb7.size)
  clear a0 a1 a2 b0 b1 b2 k1 m1
  clear b71 b72
  replace RA := row_mv RA hb9
  replace RB := row_mv RB hb9
  replace RK := row_mv RK hb9
  replace RL := row_mv RL hb9
  replace B := bel_mv B hb9
  clear hb7 hb8 hb9
  have a1 := row_cell RA.out 1
  simp at a1
  have y0 := row_cell RK.out 0
  have y1 := row_cell RK.out 1
  have y2 := row_cell RK.out 2
  have y3 := row_cell RK.out 3
  simp at y0 y1 y2 y3
  go_upto_region 6 with (go_at_call 39; (with_reducible refine (HN1.out _ _).mono ?_); rintro e w11 ⟨rfl, hb11⟩)
  clear a1 y0 y1 y2 y3
  obtain ⟨rn, hn⟩ := box1 w11 (.cells #[.bool false, .bool q1, .bool r1, .string D1, .int .i64 e1] 61)
  generalize World.alloc w11 _ = w12 at rn hn ⊢
  have hbn := hb11.trans (hn.mono hb11.size)
  replace RA := row_mv RA hbn
  replace RB := row_mv RB hbn
  replace RK := row_mv RK hbn
  replace RL := row_mv RL hbn
  replace B := bel_mv B hbn
  have RN1 := Lib.hid rn
  clear rn hn hb11 hbn
  have a1 := row_cell RB.out 1
  simp at a1
  have y0 := row_cell RL.out 0
  have y1 := row_cell RL.out 1
  have y2 := row_cell RL.out 2
  have y3 := row_cell RL.out 3
  simp at y0 y1 y2 y3
  go_upto_region 7 with (go_at_call 39; (with_reducible refine (HN2.out _ _).mono ?_); rintro e w13 ⟨rfl, hb13⟩)
  clear a1 y0 y1 y2 y3
  obtain ⟨rn, hn⟩ := box1 w13 (.cells #[.bool false, .bool q2, .bool r2, .string D2, .int .i64 e2] 61)
  generalize World.alloc w13 _ = w14 at rn hn ⊢
  have hbn := hb13.trans (hn.mono hb13.size)
  replace RA := row_mv RA hbn
  replace RB := row_mv RB hbn
  replace RK := row_mv RK hbn
  replace RL := row_mv RL hbn
  replace RN1 := row_mv RN1 hbn
  replace B := bel_mv B hbn
  have RN2 := Lib.hid rn
  clear rn hn hb13 hbn
  have n10 := row_cell RN1.out 0
  have n11 := row_cell RN1.out 1
  have n12 := row_cell RN1.out 2
  have n13 := row_cell RN1.out 3
  have n14 := row_cell RN1.out 4
  simp at n10 n11 n12 n13 n14
  have n20 := row_cell RN2.out 0
  have n21 := row_cell RN2.out 1
  have n22 := row_cell RN2.out 2
  have n23 := row_cell RN2.out 3
  have n24 := row_cell RN2.out 4
  simp at n20 n21 n22 n23 n24
  go_wp2_with (go_at_call 40; (with_reducible refine (HO.out _).mono ?_); rintro e w20 ⟨rfl, hb20⟩)
  go_ret2
  exact ⟨rfl, B.out.trans (hb20.mono B.out.size)⟩
set_option maxRecDepth 100000 in
set_option maxHeartbeats 8000000 in
theorem cp_dift (xa ta la xb tb lb : ByteArray) (w : World) (l1 l2 : Int) (lo1 hi1 lo2 hi2 : ByteArray) (hk1 : KnC ta l1 lo1 hi1) (hk2 : KnC tb l2 lo2 hi2) (h3 : l1 ≠ 0) (h4 : l2 ≠ 0) (hc1 : CkC ta xa 0) (hc2 : CkC tb xb 0) (p1 q1 r1 : Bool) (D1 : ByteArray) (e1 : Int) (p2 q2 r2 : Bool) (D2 : ByteArray) (e2 : Int) (hn1 : NuC l1 lo1 hi1 xa p1 q1 r1 D1 e1 true) (hn2 : NuC l2 lo2 hi2 xb p2 q2 r2 D2 e2 false) (hd : l1 ≠ l2) :
    Calls Tryz.prog 18 #[.agg #[.int .i64 3, .string xa, .string ta, .string la], .agg #[.int .i64 3, .string xb, .string tb, .string lb]] w fun e w' => e = .returned (.tuple #[.int .i64 0, .bool false]) ∧ Below w.heap.size w w' := by
  have hz1 : (l1 == 0) = false := beq_false_of_ne h3
  have hz2 : (l2 == 0) = false := beq_false_of_ne h4
  have HC1 := Lib.hid hc1
  have HC2 := Lib.hid hc2
  clear h3 h4 hc1 hc2
  have HK1 := Lib.hid hk1
  have HK2 := Lib.hid hk2
  clear hk1 hk2
  have HN1 := Lib.hid hn1
  have HN2 := Lib.hid hn2
  clear hn1 hn2
  have hdb : (l1 != l2) = true := bne_iff_ne.2 hd
  clear hd
  go_enter Tryz.func18, Tryz.ntmps18
  go_upto_region 1 with fail
  obtain ⟨ra, rb, hb⟩ := box2 w (.cells #[.int .i64 3, .string xa, .string ta, .string la] 33) (.cells #[.int .i64 3, .string xb, .string tb, .string lb] 33)
  generalize World.alloc (World.alloc w _) _ = w2 at ra rb hb ⊢
  have RA := Lib.hid ra
  have RB := Lib.hid rb
  have B := Lib.hid hb
  clear ra rb hb
  have a2 := row_cell RA.out 2
  simp at a2
  go_upto_region 2 with (go_at_call 25; (with_reducible refine (HK1.out _).mono ?_); rintro e w3 ⟨n1, rfl, hb3⟩)
  clear a2
  obtain ⟨rk, hk⟩ := box1 w3 (.cells #[.string n1, .int .i64 l1, .string lo1, .string hi1] 48)
  generalize World.alloc w3 _ = w4 at rk hk ⊢
  have hb4 := hb3.trans (hk.mono hb3.size)
  replace RA := row_mv RA hb4
  replace RB := row_mv RB hb4
  replace B := bel_mv B hb4
  have RK := Lib.hid rk
  clear rk hk hb3 hb4
  have b2 := row_cell RB.out 2
  simp at b2
  go_upto_region 3 with (go_at_call 25; (with_reducible refine (HK2.out _).mono ?_); rintro e w5 ⟨n2, rfl, hb5⟩)
  clear b2
  obtain ⟨rl, hl⟩ := box1 w5 (.cells #[.string n2, .int .i64 l2, .string lo2, .string hi2] 48)
  generalize World.alloc w5 _ = w6 at rl hl ⊢
  have hb6 := hb5.trans (hl.mono hb5.size)
  replace RA := row_mv RA hb6
  replace RB := row_mv RB hb6
  replace RK := row_mv RK hb6
  replace B := bel_mv B hb6
  have RL := Lib.hid rl
  clear rl hl hb5 hb6
  have a0 := row_cell RA.out 0
  simp at a0
  have a1 := row_cell RA.out 1
  simp at a1
  have a2 := row_cell RA.out 2
  simp at a2
  have b0 := row_cell RB.out 0
  simp at b0
  have b1 := row_cell RB.out 1
  simp at b1
  have b2 := row_cell RB.out 2
  simp at b2
  have k1 := row_cell RK.out 1
  simp at k1
  have m1 := row_cell RL.out 1
  simp at m1
  go_upto_region 5 with (first | (go_at_call 14; (with_reducible refine (HC1.out _).mono ?_); rintro e w7 ⟨rfl, hb7⟩; (have rb7 := row_mv RB hb7); (have b71 := row_cell rb7.out 1); (have b72 := row_cell rb7.out 2); (simp at b71 b72); clear rb7) | (go_at_call 14; (with_reducible refine (HC2.out _).mono ?_); rintro e w8 ⟨rfl, hb8⟩))
  have hb9 := hb7.trans (hb8.mono hb7.size)
  clear a0 a1 a2 b0 b1 b2 k1 m1
  clear b71 b72
  replace RA := row_mv RA hb9
  replace RB := row_mv RB hb9
  replace RK := row_mv RK hb9
  replace RL := row_mv RL hb9
  replace B := bel_mv B hb9
  clear hb7 hb8 hb9
  have a1 := row_cell RA.out 1
  simp at a1
  have y0 := row_cell RK.out 0
  have y1 := row_cell RK.out 1
  have y2 := row_cell RK.out 2
  have y3 := row_cell RK.out 3
  simp at y0 y1 y2 y3
  go_upto_region 6 with (go_at_call 39; (with_reducible refine (HN1.out _ _).mono ?_); rintro e w11 ⟨rfl, hb11⟩)
  clear a1 y0 y1 y2 y3
  obtain ⟨rn, hn⟩ := box1 w11 (.cells #[.bool p1, .bool q1, .bool r1, .string D1, .int .i64 e1] 61)
  generalize World.alloc w11 _ = w12 at rn hn ⊢
  have hbn := hb11.trans (hn.mono hb11.size)
  replace RA := row_mv RA hbn
  replace RB := row_mv RB hbn
  replace RK := row_mv RK hbn
  replace RL := row_mv RL hbn
  replace B := bel_mv B hbn
  have RN1 := Lib.hid rn
  clear rn hn hb11 hbn
  have a1 := row_cell RB.out 1
  simp at a1
  have y0 := row_cell RL.out 0
  have y1 := row_cell RL.out 1
  have y2 := row_cell RL.out 2
  have y3 := row_cell RL.out 3
  simp at y0 y1 y2 y3
  go_upto_region 7 with (go_at_call 39; (with_reducible refine (HN2.out _ _).mono ?_); rintro e w13 ⟨rfl, hb13⟩)
  clear a1 y0 y1 y2 y3
  obtain ⟨rn, hn⟩ := box1 w13 (.cells #[.bool p2, .bool q2, .bool r2, .string D2, .int .i64 e2] 61)
  generalize World.alloc w13 _ = w14 at rn hn ⊢
  have hbn := hb13.trans (hn.mono hb13.size)
  replace RA := row_mv RA hbn
  replace RB := row_mv RB hbn
  replace RK := row_mv RK hbn
  replace RL := row_mv RL hbn
  replace RN1 := row_mv RN1 hbn
  replace B := bel_mv B hbn
  have RN2 := Lib.hid rn
  clear rn hn hb13 hbn
  have k1 := row_cell RK.out 1
  simp at k1
  have m1 := row_cell RL.out 1
  simp at m1
  go_wp2_with fail
  go_ret2
  exact ⟨rfl, B.out⟩
set_option maxRecDepth 100000 in
set_option maxHeartbeats 8000000 in
theorem cp_diff (xa ta la xb tb lb : ByteArray) (w : World) (l1 l2 : Int) (lo1 hi1 lo2 hi2 : ByteArray) (hk1 : KnC ta l1 lo1 hi1) (hk2 : KnC tb l2 lo2 hi2) (h3 : l1 ≠ 0) (h4 : l2 ≠ 0) (hc1 : CkC ta xa 0) (hc2 : CkC tb xb 0) (f2 : Bool) (p1 q1 r1 : Bool) (D1 : ByteArray) (e1 : Int) (p2 q2 r2 : Bool) (D2 : ByteArray) (e2 : Int) (hn1 : NuC l1 lo1 hi1 xa p1 q1 r1 D1 e1 false) (hn2 : NuC l2 lo2 hi2 xb p2 q2 r2 D2 e2 f2) (hd : l1 ≠ l2) :
    Calls Tryz.prog 18 #[.agg #[.int .i64 3, .string xa, .string ta, .string la], .agg #[.int .i64 3, .string xb, .string tb, .string lb]] w fun e w' => e = .returned (.tuple #[.int .i64 0, .bool false]) ∧ Below w.heap.size w w' := by
  have hz1 : (l1 == 0) = false := beq_false_of_ne h3
  have hz2 : (l2 == 0) = false := beq_false_of_ne h4
  have HC1 := Lib.hid hc1
  have HC2 := Lib.hid hc2
  clear h3 h4 hc1 hc2
  have HK1 := Lib.hid hk1
  have HK2 := Lib.hid hk2
  clear hk1 hk2
  have HN1 := Lib.hid hn1
  have HN2 := Lib.hid hn2
  clear hn1 hn2
  have hdb : (l1 != l2) = true := bne_iff_ne.2 hd
  clear hd
  go_enter Tryz.func18, Tryz.ntmps18
  go_upto_region 1 with fail
  obtain ⟨ra, rb, hb⟩ := box2 w (.cells #[.int .i64 3, .string xa, .string ta, .string la] 33) (.cells #[.int .i64 3, .string xb, .string tb, .string lb] 33)
  generalize World.alloc (World.alloc w _) _ = w2 at ra rb hb ⊢
  have RA := Lib.hid ra
  have RB := Lib.hid rb
  have B := Lib.hid hb
  clear ra rb hb
  have a2 := row_cell RA.out 2
  simp at a2
  go_upto_region 2 with (go_at_call 25; (with_reducible refine (HK1.out _).mono ?_); rintro e w3 ⟨n1, rfl, hb3⟩)
  clear a2
  obtain ⟨rk, hk⟩ := box1 w3 (.cells #[.string n1, .int .i64 l1, .string lo1, .string hi1] 48)
  generalize World.alloc w3 _ = w4 at rk hk ⊢
  have hb4 := hb3.trans (hk.mono hb3.size)
  replace RA := row_mv RA hb4
  replace RB := row_mv RB hb4
  replace B := bel_mv B hb4
  have RK := Lib.hid rk
  clear rk hk hb3 hb4
  have b2 := row_cell RB.out 2
  simp at b2
  go_upto_region 3 with (go_at_call 25; (with_reducible refine (HK2.out _).mono ?_); rintro e w5 ⟨n2, rfl, hb5⟩)
  clear b2
  obtain ⟨rl, hl⟩ := box1 w5 (.cells #[.string n2, .int .i64 l2, .string lo2, .string hi2] 48)
  generalize World.alloc w5 _ = w6 at rl hl ⊢
  have hb6 := hb5.trans (hl.mono hb5.size)
  replace RA := row_mv RA hb6
  replace RB := row_mv RB hb6
  replace RK := row_mv RK hb6
  replace B := bel_mv B hb6
  have RL := Lib.hid rl
  clear rl hl hb5 hb6
  have a0 := row_cell RA.out 0
  simp at a0
  have a1 := row_cell RA.out 1
  simp at a1
  have a2 := row_cell RA.out 2
  simp at a2
  have b0 := row_cell RB.out 0
  simp at b0
  have b1 := row_cell RB.out 1
  simp at b1
  have b2 := row_cell RB.out 2
  simp at b2
  have k1 := row_cell RK.out 1
  simp at k1
  have m1 := row_cell RL.out 1
  simp at m1
  go_upto_region 5 with (first | (go_at_call 14; (with_reducible refine (HC1.out _).mono ?_); rintro e w7 ⟨rfl, hb7⟩; (have rb7 := row_mv RB hb7); (have b71 := row_cell rb7.out 1); (have b72 := row_cell rb7.out 2); (simp at b71 b72); clear rb7) | (go_at_call 14; (with_reducible refine (HC2.out _).mono ?_); rintro e w8 ⟨rfl, hb8⟩))
  have hb9 := hb7.trans (hb8.mono hb7.size)
  clear a0 a1 a2 b0 b1 b2 k1 m1
  clear b71 b72
  replace RA := row_mv RA hb9
  replace RB := row_mv RB hb9
  replace RK := row_mv RK hb9
  replace RL := row_mv RL hb9
  replace B := bel_mv B hb9
  clear hb7 hb8 hb9
  have a1 := row_cell RA.out 1
  simp at a1
  have y0 := row_cell RK.out 0
  have y1 := row_cell RK.out 1
  have y2 := row_cell RK.out 2
  have y3 := row_cell RK.out 3
  simp at y0 y1 y2 y3
  go_upto_region 6 with (go_at_call 39; (with_reducible refine (HN1.out _ _).mono ?_); rintro e w11 ⟨rfl, hb11⟩)
  clear a1 y0 y1 y2 y3
  obtain ⟨rn, hn⟩ := box1 w11 (.cells #[.bool p1, .bool q1, .bool r1, .string D1, .int .i64 e1] 61)
  generalize World.alloc w11 _ = w12 at rn hn ⊢
  have hbn := hb11.trans (hn.mono hb11.size)
  replace RA := row_mv RA hbn
  replace RB := row_mv RB hbn
  replace RK := row_mv RK hbn
  replace RL := row_mv RL hbn
  replace B := bel_mv B hbn
  have RN1 := Lib.hid rn
  clear rn hn hb11 hbn
  have a1 := row_cell RB.out 1
  simp at a1
  have y0 := row_cell RL.out 0
  have y1 := row_cell RL.out 1
  have y2 := row_cell RL.out 2
  have y3 := row_cell RL.out 3
  simp at y0 y1 y2 y3
  go_upto_region 7 with (go_at_call 39; (with_reducible refine (HN2.out _ _).mono ?_); rintro e w13 ⟨rfl, hb13⟩)
  clear a1 y0 y1 y2 y3
  obtain ⟨rn, hn⟩ := box1 w13 (.cells #[.bool p2, .bool q2, .bool r2, .string D2, .int .i64 e2] 61)
  generalize World.alloc w13 _ = w14 at rn hn ⊢
  have hbn := hb13.trans (hn.mono hb13.size)
  replace RA := row_mv RA hbn
  replace RB := row_mv RB hbn
  replace RK := row_mv RK hbn
  replace RL := row_mv RL hbn
  replace RN1 := row_mv RN1 hbn
  replace B := bel_mv B hbn
  have RN2 := Lib.hid rn
  clear rn hn hb13 hbn
  have k1 := row_cell RK.out 1
  simp at k1
  have m1 := row_cell RL.out 1
  simp at m1
  go_wp2_with fail
  go_ret2
  exact ⟨rfl, B.out⟩
set_option maxRecDepth 100000 in
set_option maxHeartbeats 8000000 in
theorem cp_str (xa ta la xb tb lb : ByteArray) (w : World) (lo1 hi1 lo2 hi2 : ByteArray) (hk1 : KnC ta 1 lo1 hi1) (hk2 : KnC tb 1 lo2 hi2) (hc1 : CkC ta xa 0) (hc2 : CkC tb xb 0) (p1 q1 r1 : Bool) (D1 : ByteArray) (e1 : Int) (p2 q2 r2 : Bool) (D2 : ByteArray) (e2 : Int) (hn1 : NuC 1 lo1 hi1 xa p1 q1 r1 D1 e1 false) (hn2 : NuC 1 lo2 hi2 xb p2 q2 r2 D2 e2 false) (c : Int) (ht : TxC xa xb c) :
    Calls Tryz.prog 18 #[.agg #[.int .i64 3, .string xa, .string ta, .string la], .agg #[.int .i64 3, .string xb, .string tb, .string lb]] w fun e w' => e = .returned (.tuple #[.int .i64 c, .bool true]) ∧ Below w.heap.size w w' := by
  have HC1 := Lib.hid hc1
  have HC2 := Lib.hid hc2
  clear hc1 hc2
  have HK1 := Lib.hid hk1
  have HK2 := Lib.hid hk2
  clear hk1 hk2
  have HN1 := Lib.hid hn1
  have HN2 := Lib.hid hn2
  clear hn1 hn2
  have HT := Lib.hid ht
  clear ht
  go_enter Tryz.func18, Tryz.ntmps18
  go_upto_region 1 with fail
  obtain ⟨ra, rb, hb⟩ := box2 w (.cells #[.int .i64 3, .string xa, .string ta, .string la] 33) (.cells #[.int .i64 3, .string xb, .string tb, .string lb] 33)
  generalize World.alloc (World.alloc w _) _ = w2 at ra rb hb ⊢
  have RA := Lib.hid ra
  have RB := Lib.hid rb
  have B := Lib.hid hb
  clear ra rb hb
  have a2 := row_cell RA.out 2
  simp at a2
  go_upto_region 2 with (go_at_call 25; (with_reducible refine (HK1.out _).mono ?_); rintro e w3 ⟨n1, rfl, hb3⟩)
  clear a2
  obtain ⟨rk, hk⟩ := box1 w3 (.cells #[.string n1, .int .i64 1, .string lo1, .string hi1] 48)
  generalize World.alloc w3 _ = w4 at rk hk ⊢
  have hb4 := hb3.trans (hk.mono hb3.size)
  replace RA := row_mv RA hb4
  replace RB := row_mv RB hb4
  replace B := bel_mv B hb4
  have RK := Lib.hid rk
  clear rk hk hb3 hb4
  have b2 := row_cell RB.out 2
  simp at b2
  go_upto_region 3 with (go_at_call 25; (with_reducible refine (HK2.out _).mono ?_); rintro e w5 ⟨n2, rfl, hb5⟩)
  clear b2
  obtain ⟨rl, hl⟩ := box1 w5 (.cells #[.string n2, .int .i64 1, .string lo2, .string hi2] 48)
  generalize World.alloc w5 _ = w6 at rl hl ⊢
  have hb6 := hb5.trans (hl.mono hb5.size)
  replace RA := row_mv RA hb6
  replace RB := row_mv RB hb6
  replace RK := row_mv RK hb6
  replace B := bel_mv B hb6
  have RL := Lib.hid rl
  clear rl hl hb5 hb6
  have a0 := row_cell RA.out 0
  simp at a0
  have a1 := row_cell RA.out 1
  simp at a1
  have a2 := row_cell RA.out 2
  simp at a2
  have b0 := row_cell RB.out 0
  simp at b0
  have b1 := row_cell RB.out 1
  simp at b1
  have b2 := row_cell RB.out 2
  simp at b2
  have k1 := row_cell RK.out 1
  simp at k1
  have m1 := row_cell RL.out 1
  simp at m1
  go_upto_region 5 with (first | (go_at_call 14; (with_reducible refine (HC1.out _).mono ?_); rintro e w7 ⟨rfl, hb7⟩; (have rb7 := row_mv RB hb7); (have b71 := row_cell rb7.out 1); (have b72 := row_cell rb7.out 2); (simp at b71 b72); clear rb7) | (go_at_call 14; (with_reducible refine (HC2.out _).mono ?_); rintro e w8 ⟨rfl, hb8⟩))
  have hb9 := hb7.trans (hb8.mono hb7.size)
  clear a0 a1 a2 b0 b1 b2 k1 m1
  clear b71 b72
  replace RA := row_mv RA hb9
  replace RB := row_mv RB hb9
  replace RK := row_mv RK hb9
  replace RL := row_mv RL hb9
  replace B := bel_mv B hb9
  clear hb7 hb8 hb9
  have a1 := row_cell RA.out 1
  simp at a1
  have y0 := row_cell RK.out 0
  have y1 := row_cell RK.out 1
  have y2 := row_cell RK.out 2
  have y3 := row_cell RK.out 3
  simp at y0 y1 y2 y3
  go_upto_region 6 with (go_at_call 39; (with_reducible refine (HN1.out _ _).mono ?_); rintro e w11 ⟨rfl, hb11⟩)
  clear a1 y0 y1 y2 y3
  obtain ⟨rn, hn⟩ := box1 w11 (.cells #[.bool p1, .bool q1, .bool r1, .string D1, .int .i64 e1] 61)
  generalize World.alloc w11 _ = w12 at rn hn ⊢
  have hbn := hb11.trans (hn.mono hb11.size)
  replace RA := row_mv RA hbn
  replace RB := row_mv RB hbn
  replace RK := row_mv RK hbn
  replace RL := row_mv RL hbn
  replace B := bel_mv B hbn
  have RN1 := Lib.hid rn
  clear rn hn hb11 hbn
  have a1 := row_cell RB.out 1
  simp at a1
  have y0 := row_cell RL.out 0
  have y1 := row_cell RL.out 1
  have y2 := row_cell RL.out 2
  have y3 := row_cell RL.out 3
  simp at y0 y1 y2 y3
  go_upto_region 7 with (go_at_call 39; (with_reducible refine (HN2.out _ _).mono ?_); rintro e w13 ⟨rfl, hb13⟩)
  clear a1 y0 y1 y2 y3
  obtain ⟨rn, hn⟩ := box1 w13 (.cells #[.bool p2, .bool q2, .bool r2, .string D2, .int .i64 e2] 61)
  generalize World.alloc w13 _ = w14 at rn hn ⊢
  have hbn := hb13.trans (hn.mono hb13.size)
  replace RA := row_mv RA hbn
  replace RB := row_mv RB hbn
  replace RK := row_mv RK hbn
  replace RL := row_mv RL hbn
  replace RN1 := row_mv RN1 hbn
  replace B := bel_mv B hbn
  have RN2 := Lib.hid rn
  clear rn hn hb13 hbn
  clear RN1 RN2
  have k1 := row_cell RK.out 1
  simp at k1
  have m1 := row_cell RL.out 1
  simp at m1
  have a1 := row_cell RA.out 1
  simp at a1
  have b1 := row_cell RB.out 1
  simp at b1
  go_wp2_with (go_at_call 41; (with_reducible refine (HT.out _).mono ?_); rintro e w' ⟨rfl, rfl⟩)
  go_ret2
  exact ⟨rfl, B.out⟩
set_option maxRecDepth 100000 in
set_option maxHeartbeats 8000000 in
theorem cp_boo (xa ta la xb tb lb : ByteArray) (w : World) (lo1 hi1 lo2 hi2 : ByteArray) (hk1 : KnC ta 2 lo1 hi1) (hk2 : KnC tb 2 lo2 hi2) (hc1 : CkC ta xa 0) (hc2 : CkC tb xb 0) (p1 q1 r1 : Bool) (D1 : ByteArray) (e1 : Int) (p2 q2 r2 : Bool) (D2 : ByteArray) (e2 : Int) (hn1 : NuC 2 lo1 hi1 xa p1 q1 r1 D1 e1 false) (hn2 : NuC 2 lo2 hi2 xb p2 q2 r2 D2 e2 false) (U V : ByteArray) (c : Int) (hw1 : OwC lo1 hi1 xa U) (hw2 : OwC lo2 hi2 xb V) (ht : TxC U V c) :
    Calls Tryz.prog 18 #[.agg #[.int .i64 3, .string xa, .string ta, .string la], .agg #[.int .i64 3, .string xb, .string tb, .string lb]] w fun e w' => e = .returned (.tuple #[.int .i64 c, .bool true]) ∧ Below w.heap.size w w' := by
  have HC1 := Lib.hid hc1
  have HC2 := Lib.hid hc2
  clear hc1 hc2
  have HK1 := Lib.hid hk1
  have HK2 := Lib.hid hk2
  clear hk1 hk2
  have HN1 := Lib.hid hn1
  have HN2 := Lib.hid hn2
  clear hn1 hn2
  have HT := Lib.hid ht
  have HW1 := Lib.hid hw1
  have HW2 := Lib.hid hw2
  clear ht hw1 hw2
  go_enter Tryz.func18, Tryz.ntmps18
  go_upto_region 1 with fail
  obtain ⟨ra, rb, hb⟩ := box2 w (.cells #[.int .i64 3, .string xa, .string ta, .string la] 33) (.cells #[.int .i64 3, .string xb, .string tb, .string lb] 33)
  generalize World.alloc (World.alloc w _) _ = w2 at ra rb hb ⊢
  have RA := Lib.hid ra
  have RB := Lib.hid rb
  have B := Lib.hid hb
  clear ra rb hb
  have a2 := row_cell RA.out 2
  simp at a2
  go_upto_region 2 with (go_at_call 25; (with_reducible refine (HK1.out _).mono ?_); rintro e w3 ⟨n1, rfl, hb3⟩)
  clear a2
  obtain ⟨rk, hk⟩ := box1 w3 (.cells #[.string n1, .int .i64 2, .string lo1, .string hi1] 48)
  generalize World.alloc w3 _ = w4 at rk hk ⊢
  have hb4 := hb3.trans (hk.mono hb3.size)
  replace RA := row_mv RA hb4
  replace RB := row_mv RB hb4
  replace B := bel_mv B hb4
  have RK := Lib.hid rk
  clear rk hk hb3 hb4
  have b2 := row_cell RB.out 2
  simp at b2
  go_upto_region 3 with (go_at_call 25; (with_reducible refine (HK2.out _).mono ?_); rintro e w5 ⟨n2, rfl, hb5⟩)
  clear b2
  obtain ⟨rl, hl⟩ := box1 w5 (.cells #[.string n2, .int .i64 2, .string lo2, .string hi2] 48)
  generalize World.alloc w5 _ = w6 at rl hl ⊢
  have hb6 := hb5.trans (hl.mono hb5.size)
  replace RA := row_mv RA hb6
  replace RB := row_mv RB hb6
  replace RK := row_mv RK hb6
  replace B := bel_mv B hb6
  have RL := Lib.hid rl
  clear rl hl hb5 hb6
  have a0 := row_cell RA.out 0
  simp at a0
  have a1 := row_cell RA.out 1
  simp at a1
  have a2 := row_cell RA.out 2
  simp at a2
  have b0 := row_cell RB.out 0
  simp at b0
  have b1 := row_cell RB.out 1
  simp at b1
  have b2 := row_cell RB.out 2
  simp at b2
  have k1 := row_cell RK.out 1
  simp at k1
  have m1 := row_cell RL.out 1
  simp at m1
  go_upto_region 5 with (first | (go_at_call 14; (with_reducible refine (HC1.out _).mono ?_); rintro e w7 ⟨rfl, hb7⟩; (have rb7 := row_mv RB hb7); (have b71 := row_cell rb7.out 1); (have b72 := row_cell rb7.out 2); (simp at b71 b72); clear rb7) | (go_at_call 14; (with_reducible refine (HC2.out _).mono ?_); rintro e w8 ⟨rfl, hb8⟩))
  have hb9 := hb7.trans (hb8.mono hb7.size)
  clear a0 a1 a2 b0 b1 b2 k1 m1
  clear b71 b72
  replace RA := row_mv RA hb9
  replace RB := row_mv RB hb9
  replace RK := row_mv RK hb9
  replace RL := row_mv RL hb9
  replace B := bel_mv B hb9
  clear hb7 hb8 hb9
  have a1 := row_cell RA.out 1
  simp at a1
  have y0 := row_cell RK.out 0
  have y1 := row_cell RK.out 1
  have y2 := row_cell RK.out 2
  have y3 := row_cell RK.out 3
  simp at y0 y1 y2 y3
  go_upto_region 6 with (go_at_call 39; (with_reducible refine (HN1.out _ _).mono ?_); rintro e w11 ⟨rfl, hb11⟩)
  clear a1 y0 y1 y2 y3
  obtain ⟨rn, hn⟩ := box1 w11 (.cells #[.bool p1, .bool q1, .bool r1, .string D1, .int .i64 e1] 61)
  generalize World.alloc w11 _ = w12 at rn hn ⊢
  have hbn := hb11.trans (hn.mono hb11.size)
  replace RA := row_mv RA hbn
  replace RB := row_mv RB hbn
  replace RK := row_mv RK hbn
  replace RL := row_mv RL hbn
  replace B := bel_mv B hbn
  have RN1 := Lib.hid rn
  clear rn hn hb11 hbn
  have a1 := row_cell RB.out 1
  simp at a1
  have y0 := row_cell RL.out 0
  have y1 := row_cell RL.out 1
  have y2 := row_cell RL.out 2
  have y3 := row_cell RL.out 3
  simp at y0 y1 y2 y3
  go_upto_region 7 with (go_at_call 39; (with_reducible refine (HN2.out _ _).mono ?_); rintro e w13 ⟨rfl, hb13⟩)
  clear a1 y0 y1 y2 y3
  obtain ⟨rn, hn⟩ := box1 w13 (.cells #[.bool p2, .bool q2, .bool r2, .string D2, .int .i64 e2] 61)
  generalize World.alloc w13 _ = w14 at rn hn ⊢
  have hbn := hb13.trans (hn.mono hb13.size)
  replace RA := row_mv RA hbn
  replace RB := row_mv RB hbn
  replace RK := row_mv RK hbn
  replace RL := row_mv RL hbn
  replace RN1 := row_mv RN1 hbn
  replace B := bel_mv B hbn
  have RN2 := Lib.hid rn
  clear rn hn hb13 hbn
  clear RN1 RN2
  have y0 := row_cell RK.out 0
  have z0 := row_cell RL.out 0
  have y1 := row_cell RK.out 1
  have z1 := row_cell RL.out 1
  have y2 := row_cell RK.out 2
  have z2 := row_cell RL.out 2
  have y3 := row_cell RK.out 3
  have z3 := row_cell RL.out 3
  simp at y0 y1 y2 y3 z0 z1 z2 z3
  have a1 := row_cell RA.out 1
  simp at a1
  have b1 := row_cell RB.out 1
  simp at b1
  go_upto_region 18 with (go_at_call 27; (with_reducible refine (HW1.out _ _).mono ?_); rintro e w20 ⟨rfl, hb20⟩)
  clear y0 y1 y2 y3 z0 z1 z2 z3 a1 b1
  replace RB := row_mv RB hb20
  replace RL := row_mv RL hb20
  replace B := bel_mv B hb20
  clear hb20
  have z0 := row_cell RL.out 0
  have z1 := row_cell RL.out 1
  have z2 := row_cell RL.out 2
  have z3 := row_cell RL.out 3
  simp at z0 z1 z2 z3
  have b1 := row_cell RB.out 1
  simp at b1
  go_wp2_with (first | (go_at_call 27; (with_reducible refine (HW2.out _ _).mono ?_); rintro e w21 ⟨rfl, hb21⟩) | (go_at_call 41; (with_reducible refine (HT.out _).mono ?_); rintro e w' ⟨rfl, rfl⟩))
  go_ret2
  exact ⟨rfl, B.out.trans (hb21.mono B.out.size)⟩
set_option maxRecDepth 100000 in
set_option maxHeartbeats 8000000 in
theorem cp_hex (xa ta la xb tb lb : ByteArray) (w : World) (lo1 hi1 lo2 hi2 : ByteArray) (hk1 : KnC ta 9 lo1 hi1) (hk2 : KnC tb 9 lo2 hi2) (hc1 : CkC ta xa 0) (hc2 : CkC tb xb 0) (p1 q1 r1 : Bool) (D1 : ByteArray) (e1 : Int) (p2 q2 r2 : Bool) (D2 : ByteArray) (e2 : Int) (hn1 : NuC 9 lo1 hi1 xa p1 q1 r1 D1 e1 false) (hn2 : NuC 9 lo2 hi2 xb p2 q2 r2 D2 e2 false) (P Q : List UInt8) (c : Int) (hw1 : VbC 42 xa P) (hw2 : VbC 42 xb Q) (ht : TxC ⟨P.toArray⟩ ⟨Q.toArray⟩ c) :
    Calls Tryz.prog 18 #[.agg #[.int .i64 3, .string xa, .string ta, .string la], .agg #[.int .i64 3, .string xb, .string tb, .string lb]] w fun e w' => e = .returned (.tuple #[.int .i64 c, .bool true]) ∧ Below w.heap.size w w' := by
  have HC1 := Lib.hid hc1
  have HC2 := Lib.hid hc2
  clear hc1 hc2
  have HK1 := Lib.hid hk1
  have HK2 := Lib.hid hk2
  clear hk1 hk2
  have HN1 := Lib.hid hn1
  have HN2 := Lib.hid hn2
  clear hn1 hn2
  have HT := Lib.hid ht
  have HW1 := Lib.hid hw1
  have HW2 := Lib.hid hw2
  clear ht hw1 hw2
  go_enter Tryz.func18, Tryz.ntmps18
  go_upto_region 1 with fail
  obtain ⟨ra, rb, hb⟩ := box2 w (.cells #[.int .i64 3, .string xa, .string ta, .string la] 33) (.cells #[.int .i64 3, .string xb, .string tb, .string lb] 33)
  generalize World.alloc (World.alloc w _) _ = w2 at ra rb hb ⊢
  have RA := Lib.hid ra
  have RB := Lib.hid rb
  have B := Lib.hid hb
  clear ra rb hb
  have a2 := row_cell RA.out 2
  simp at a2
  go_upto_region 2 with (go_at_call 25; (with_reducible refine (HK1.out _).mono ?_); rintro e w3 ⟨n1, rfl, hb3⟩)
  clear a2
  obtain ⟨rk, hk⟩ := box1 w3 (.cells #[.string n1, .int .i64 9, .string lo1, .string hi1] 48)
  generalize World.alloc w3 _ = w4 at rk hk ⊢
  have hb4 := hb3.trans (hk.mono hb3.size)
  replace RA := row_mv RA hb4
  replace RB := row_mv RB hb4
  replace B := bel_mv B hb4
  have RK := Lib.hid rk
  clear rk hk hb3 hb4
  have b2 := row_cell RB.out 2
  simp at b2
  go_upto_region 3 with (go_at_call 25; (with_reducible refine (HK2.out _).mono ?_); rintro e w5 ⟨n2, rfl, hb5⟩)
  clear b2
  obtain ⟨rl, hl⟩ := box1 w5 (.cells #[.string n2, .int .i64 9, .string lo2, .string hi2] 48)
  generalize World.alloc w5 _ = w6 at rl hl ⊢
  have hb6 := hb5.trans (hl.mono hb5.size)
  replace RA := row_mv RA hb6
  replace RB := row_mv RB hb6
  replace RK := row_mv RK hb6
  replace B := bel_mv B hb6
  have RL := Lib.hid rl
  clear rl hl hb5 hb6
  have a0 := row_cell RA.out 0
  simp at a0
  have a1 := row_cell RA.out 1
  simp at a1
  have a2 := row_cell RA.out 2
  simp at a2
  have b0 := row_cell RB.out 0
  simp at b0
  have b1 := row_cell RB.out 1
  simp at b1
  have b2 := row_cell RB.out 2
  simp at b2
  have k1 := row_cell RK.out 1
  simp at k1
  have m1 := row_cell RL.out 1
  simp at m1
  go_upto_region 5 with (first | (go_at_call 14; (with_reducible refine (HC1.out _).mono ?_); rintro e w7 ⟨rfl, hb7⟩; (have rb7 := row_mv RB hb7); (have b71 := row_cell rb7.out 1); (have b72 := row_cell rb7.out 2); (simp at b71 b72); clear rb7) | (go_at_call 14; (with_reducible refine (HC2.out _).mono ?_); rintro e w8 ⟨rfl, hb8⟩))
  have hb9 := hb7.trans (hb8.mono hb7.size)
  clear a0 a1 a2 b0 b1 b2 k1 m1
  clear b71 b72
  replace RA := row_mv RA hb9
  replace RB := row_mv RB hb9
  replace RK := row_mv RK hb9
  replace RL := row_mv RL hb9
  replace B := bel_mv B hb9
  clear hb7 hb8 hb9
  have a1 := row_cell RA.out 1
  simp at a1
  have y0 := row_cell RK.out 0
  have y1 := row_cell RK.out 1
  have y2 := row_cell RK.out 2
  have y3 := row_cell RK.out 3
  simp at y0 y1 y2 y3
  go_upto_region 6 with (go_at_call 39; (with_reducible refine (HN1.out _ _).mono ?_); rintro e w11 ⟨rfl, hb11⟩)
  clear a1 y0 y1 y2 y3
  obtain ⟨rn, hn⟩ := box1 w11 (.cells #[.bool p1, .bool q1, .bool r1, .string D1, .int .i64 e1] 61)
  generalize World.alloc w11 _ = w12 at rn hn ⊢
  have hbn := hb11.trans (hn.mono hb11.size)
  replace RA := row_mv RA hbn
  replace RB := row_mv RB hbn
  replace RK := row_mv RK hbn
  replace RL := row_mv RL hbn
  replace B := bel_mv B hbn
  have RN1 := Lib.hid rn
  clear rn hn hb11 hbn
  have a1 := row_cell RB.out 1
  simp at a1
  have y0 := row_cell RL.out 0
  have y1 := row_cell RL.out 1
  have y2 := row_cell RL.out 2
  have y3 := row_cell RL.out 3
  simp at y0 y1 y2 y3
  go_upto_region 7 with (go_at_call 39; (with_reducible refine (HN2.out _ _).mono ?_); rintro e w13 ⟨rfl, hb13⟩)
  clear a1 y0 y1 y2 y3
  obtain ⟨rn, hn⟩ := box1 w13 (.cells #[.bool p2, .bool q2, .bool r2, .string D2, .int .i64 e2] 61)
  generalize World.alloc w13 _ = w14 at rn hn ⊢
  have hbn := hb13.trans (hn.mono hb13.size)
  replace RA := row_mv RA hbn
  replace RB := row_mv RB hbn
  replace RK := row_mv RK hbn
  replace RL := row_mv RL hbn
  replace RN1 := row_mv RN1 hbn
  replace B := bel_mv B hbn
  have RN2 := Lib.hid rn
  clear rn hn hb13 hbn
  clear RN1 RN2
  have k1 := row_cell RK.out 1
  simp at k1
  have m1 := row_cell RL.out 1
  simp at m1
  have a1 := row_cell RA.out 1
  simp at a1
  have b1 := row_cell RB.out 1
  simp at b1
  have hsz := B.out.size
  go_upto_region 22 with (go_at_call 42; (with_reducible refine (HW1.out _).mono ?_); rintro e w20 ⟨V1, rfl, hb20, ho20⟩)
  clear k1 m1 a1 b1
  replace RB := row_mv RB hb20
  replace B := bel_mv B hb20
  obtain ⟨va1, vc1, rfl, _, _⟩ := ho20.sl
  have O1 := Lib.hid ho20
  clear hb20 ho20
  have b1 := row_cell RB.out 1
  simp at b1
  go_upto_region 23 with (go_at_call 42; (with_reducible refine (HW2.out _).mono ?_); rintro e w21 ⟨V2, rfl, hb21, ho21⟩)
  obtain ⟨va2, vc2, rfl, _, _⟩ := ho21.sl
  have o1 := O1.out.below hb21 (fun g hg => (O1.out.lt g hg).2)
  have cv1 := o1.str (P := Tryz.prog) (dst := 9) Tryz.underlying65 Tryz.underlying5 Tryz.underlying9
  have cv2 := ho21.str (P := Tryz.prog) (dst := 9) Tryz.underlying65 Tryz.underlying5 Tryz.underlying9
  have HB21 := Lib.hid hb21
  clear b1 o1 ho21 hb21 hsz
  go_wp2_with (go_at_call 41; (with_reducible refine (HT.out _).mono ?_); rintro e w' ⟨rfl, rfl⟩)
  go_ret2
  exact ⟨rfl, B.out.trans (HB21.out.mono B.out.size)⟩
set_option maxRecDepth 100000 in
set_option maxHeartbeats 8000000 in
theorem cp_b64 (xa ta la xb tb lb : ByteArray) (w : World) (lo1 hi1 lo2 hi2 : ByteArray) (hk1 : KnC ta 10 lo1 hi1) (hk2 : KnC tb 10 lo2 hi2) (hc1 : CkC ta xa 0) (hc2 : CkC tb xb 0) (p1 q1 r1 : Bool) (D1 : ByteArray) (e1 : Int) (p2 q2 r2 : Bool) (D2 : ByteArray) (e2 : Int) (hn1 : NuC 10 lo1 hi1 xa p1 q1 r1 D1 e1 false) (hn2 : NuC 10 lo2 hi2 xb p2 q2 r2 D2 e2 false) (P Q : List UInt8) (c : Int) (hw1 : VbC 43 xa P) (hw2 : VbC 43 xb Q) (ht : TxC ⟨P.toArray⟩ ⟨Q.toArray⟩ c) :
    Calls Tryz.prog 18 #[.agg #[.int .i64 3, .string xa, .string ta, .string la], .agg #[.int .i64 3, .string xb, .string tb, .string lb]] w fun e w' => e = .returned (.tuple #[.int .i64 c, .bool true]) ∧ Below w.heap.size w w' := by
  have HC1 := Lib.hid hc1
  have HC2 := Lib.hid hc2
  clear hc1 hc2
  have HK1 := Lib.hid hk1
  have HK2 := Lib.hid hk2
  clear hk1 hk2
  have HN1 := Lib.hid hn1
  have HN2 := Lib.hid hn2
  clear hn1 hn2
  have HT := Lib.hid ht
  have HW1 := Lib.hid hw1
  have HW2 := Lib.hid hw2
  clear ht hw1 hw2
  go_enter Tryz.func18, Tryz.ntmps18
  go_upto_region 1 with fail
  obtain ⟨ra, rb, hb⟩ := box2 w (.cells #[.int .i64 3, .string xa, .string ta, .string la] 33) (.cells #[.int .i64 3, .string xb, .string tb, .string lb] 33)
  generalize World.alloc (World.alloc w _) _ = w2 at ra rb hb ⊢
  have RA := Lib.hid ra
  have RB := Lib.hid rb
  have B := Lib.hid hb
  clear ra rb hb
  have a2 := row_cell RA.out 2
  simp at a2
  go_upto_region 2 with (go_at_call 25; (with_reducible refine (HK1.out _).mono ?_); rintro e w3 ⟨n1, rfl, hb3⟩)
  clear a2
  obtain ⟨rk, hk⟩ := box1 w3 (.cells #[.string n1, .int .i64 10, .string lo1, .string hi1] 48)
  generalize World.alloc w3 _ = w4 at rk hk ⊢
  have hb4 := hb3.trans (hk.mono hb3.size)
  replace RA := row_mv RA hb4
  replace RB := row_mv RB hb4
  replace B := bel_mv B hb4
  have RK := Lib.hid rk
  clear rk hk hb3 hb4
  have b2 := row_cell RB.out 2
  simp at b2
  go_upto_region 3 with (go_at_call 25; (with_reducible refine (HK2.out _).mono ?_); rintro e w5 ⟨n2, rfl, hb5⟩)
  clear b2
  obtain ⟨rl, hl⟩ := box1 w5 (.cells #[.string n2, .int .i64 10, .string lo2, .string hi2] 48)
  generalize World.alloc w5 _ = w6 at rl hl ⊢
  have hb6 := hb5.trans (hl.mono hb5.size)
  replace RA := row_mv RA hb6
  replace RB := row_mv RB hb6
  replace RK := row_mv RK hb6
  replace B := bel_mv B hb6
  have RL := Lib.hid rl
  clear rl hl hb5 hb6
  have a0 := row_cell RA.out 0
  simp at a0
  have a1 := row_cell RA.out 1
  simp at a1
  have a2 := row_cell RA.out 2
  simp at a2
  have b0 := row_cell RB.out 0
  simp at b0
  have b1 := row_cell RB.out 1
  simp at b1
  have b2 := row_cell RB.out 2
  simp at b2
  have k1 := row_cell RK.out 1
  simp at k1
  have m1 := row_cell RL.out 1
  simp at m1
  go_upto_region 5 with (first | (go_at_call 14; (with_reducible refine (HC1.out _).mono ?_); rintro e w7 ⟨rfl, hb7⟩; (have rb7 := row_mv RB hb7); (have b71 := row_cell rb7.out 1); (have b72 := row_cell rb7.out 2); (simp at b71 b72); clear rb7) | (go_at_call 14; (with_reducible refine (HC2.out _).mono ?_); rintro e w8 ⟨rfl, hb8⟩))
  have hb9 := hb7.trans (hb8.mono hb7.size)
  clear a0 a1 a2 b0 b1 b2 k1 m1
  clear b71 b72
  replace RA := row_mv RA hb9
  replace RB := row_mv RB hb9
  replace RK := row_mv RK hb9
  replace RL := row_mv RL hb9
  replace B := bel_mv B hb9
  clear hb7 hb8 hb9
  have a1 := row_cell RA.out 1
  simp at a1
  have y0 := row_cell RK.out 0
  have y1 := row_cell RK.out 1
  have y2 := row_cell RK.out 2
  have y3 := row_cell RK.out 3
  simp at y0 y1 y2 y3
  go_upto_region 6 with (go_at_call 39; (with_reducible refine (HN1.out _ _).mono ?_); rintro e w11 ⟨rfl, hb11⟩)
  clear a1 y0 y1 y2 y3
  obtain ⟨rn, hn⟩ := box1 w11 (.cells #[.bool p1, .bool q1, .bool r1, .string D1, .int .i64 e1] 61)
  generalize World.alloc w11 _ = w12 at rn hn ⊢
  have hbn := hb11.trans (hn.mono hb11.size)
  replace RA := row_mv RA hbn
  replace RB := row_mv RB hbn
  replace RK := row_mv RK hbn
  replace RL := row_mv RL hbn
  replace B := bel_mv B hbn
  have RN1 := Lib.hid rn
  clear rn hn hb11 hbn
  have a1 := row_cell RB.out 1
  simp at a1
  have y0 := row_cell RL.out 0
  have y1 := row_cell RL.out 1
  have y2 := row_cell RL.out 2
  have y3 := row_cell RL.out 3
  simp at y0 y1 y2 y3
  go_upto_region 7 with (go_at_call 39; (with_reducible refine (HN2.out _ _).mono ?_); rintro e w13 ⟨rfl, hb13⟩)
  clear a1 y0 y1 y2 y3
  obtain ⟨rn, hn⟩ := box1 w13 (.cells #[.bool p2, .bool q2, .bool r2, .string D2, .int .i64 e2] 61)
  generalize World.alloc w13 _ = w14 at rn hn ⊢
  have hbn := hb13.trans (hn.mono hb13.size)
  replace RA := row_mv RA hbn
  replace RB := row_mv RB hbn
  replace RK := row_mv RK hbn
  replace RL := row_mv RL hbn
  replace RN1 := row_mv RN1 hbn
  replace B := bel_mv B hbn
  have RN2 := Lib.hid rn
  clear rn hn hb13 hbn
  clear RN1 RN2
  have k1 := row_cell RK.out 1
  simp at k1
  have m1 := row_cell RL.out 1
  simp at m1
  have a1 := row_cell RA.out 1
  simp at a1
  have b1 := row_cell RB.out 1
  simp at b1
  have hsz := B.out.size
  go_upto_region 26 with (go_at_call 43; (with_reducible refine (HW1.out _).mono ?_); rintro e w20 ⟨V1, rfl, hb20, ho20⟩)
  clear k1 m1 a1 b1
  replace RB := row_mv RB hb20
  replace B := bel_mv B hb20
  obtain ⟨va1, vc1, rfl, _, _⟩ := ho20.sl
  have O1 := Lib.hid ho20
  clear hb20 ho20
  have b1 := row_cell RB.out 1
  simp at b1
  go_upto_region 27 with (go_at_call 43; (with_reducible refine (HW2.out _).mono ?_); rintro e w21 ⟨V2, rfl, hb21, ho21⟩)
  obtain ⟨va2, vc2, rfl, _, _⟩ := ho21.sl
  have o1 := O1.out.below hb21 (fun g hg => (O1.out.lt g hg).2)
  have cv1 := o1.str (P := Tryz.prog) (dst := 9) Tryz.underlying65 Tryz.underlying5 Tryz.underlying9
  have cv2 := ho21.str (P := Tryz.prog) (dst := 9) Tryz.underlying65 Tryz.underlying5 Tryz.underlying9
  have HB21 := Lib.hid hb21
  clear b1 o1 ho21 hb21 hsz
  go_wp2_with (go_at_call 41; (with_reducible refine (HT.out _).mono ?_); rintro e w' ⟨rfl, rfl⟩)
  go_ret2
  exact ⟨rfl, B.out.trans (HB21.out.mono B.out.size)⟩
set_option maxRecDepth 100000 in
set_option maxHeartbeats 8000000 in
theorem cp_m6 (xa ta la xb tb lb : ByteArray) (w : World) (lo1 hi1 lo2 hi2 : ByteArray) (hk1 : KnC ta 6 lo1 hi1) (hk2 : KnC tb 6 lo2 hi2) (hc1 : CkC ta xa 0) (hc2 : CkC tb xb 0) (p1 q1 r1 : Bool) (D1 : ByteArray) (e1 : Int) (p2 q2 r2 : Bool) (D2 : ByteArray) (e2 : Int) (hn1 : NuC 6 lo1 hi1 xa p1 q1 r1 D1 e1 false) (hn2 : NuC 6 lo2 hi2 xb p2 q2 r2 D2 e2 false) (P Q : Mo8 → Prop) (c : Int) (ok : Bool) (hr1 : RdC 6 xa P) (hr2 : RdC 6 xb Q) (hm : ∀ a b : Mo8, P a → Q b → ∀ w, Calls Tryz.prog 45 #[.agg a.cells, .agg b.cells, .int .i64 6] w fun e w' => e = .returned (.tuple #[.int .i64 c, .bool ok]) ∧ Below w.heap.size w w') :
    Calls Tryz.prog 18 #[.agg #[.int .i64 3, .string xa, .string ta, .string la], .agg #[.int .i64 3, .string xb, .string tb, .string lb]] w fun e w' => e = .returned (.tuple #[.int .i64 c, .bool ok]) ∧ Below w.heap.size w w' := by
  have HC1 := Lib.hid hc1
  have HC2 := Lib.hid hc2
  clear hc1 hc2
  have HK1 := Lib.hid hk1
  have HK2 := Lib.hid hk2
  clear hk1 hk2
  have HN1 := Lib.hid hn1
  have HN2 := Lib.hid hn2
  clear hn1 hn2
  have HR1 := Lib.hid hr1
  have HR2 := Lib.hid hr2
  have HM := Lib.hid hm
  clear hr1 hr2 hm
  go_enter Tryz.func18, Tryz.ntmps18
  go_upto_region 1 with fail
  obtain ⟨ra, rb, hb⟩ := box2 w (.cells #[.int .i64 3, .string xa, .string ta, .string la] 33) (.cells #[.int .i64 3, .string xb, .string tb, .string lb] 33)
  generalize World.alloc (World.alloc w _) _ = w2 at ra rb hb ⊢
  have RA := Lib.hid ra
  have RB := Lib.hid rb
  have B := Lib.hid hb
  clear ra rb hb
  have a2 := row_cell RA.out 2
  simp at a2
  go_upto_region 2 with (go_at_call 25; (with_reducible refine (HK1.out _).mono ?_); rintro e w3 ⟨n1, rfl, hb3⟩)
  clear a2
  obtain ⟨rk, hk⟩ := box1 w3 (.cells #[.string n1, .int .i64 6, .string lo1, .string hi1] 48)
  generalize World.alloc w3 _ = w4 at rk hk ⊢
  have hb4 := hb3.trans (hk.mono hb3.size)
  replace RA := row_mv RA hb4
  replace RB := row_mv RB hb4
  replace B := bel_mv B hb4
  have RK := Lib.hid rk
  clear rk hk hb3 hb4
  have b2 := row_cell RB.out 2
  simp at b2
  go_upto_region 3 with (go_at_call 25; (with_reducible refine (HK2.out _).mono ?_); rintro e w5 ⟨n2, rfl, hb5⟩)
  clear b2
  obtain ⟨rl, hl⟩ := box1 w5 (.cells #[.string n2, .int .i64 6, .string lo2, .string hi2] 48)
  generalize World.alloc w5 _ = w6 at rl hl ⊢
  have hb6 := hb5.trans (hl.mono hb5.size)
  replace RA := row_mv RA hb6
  replace RB := row_mv RB hb6
  replace RK := row_mv RK hb6
  replace B := bel_mv B hb6
  have RL := Lib.hid rl
  clear rl hl hb5 hb6
  have a0 := row_cell RA.out 0
  simp at a0
  have a1 := row_cell RA.out 1
  simp at a1
  have a2 := row_cell RA.out 2
  simp at a2
  have b0 := row_cell RB.out 0
  simp at b0
  have b1 := row_cell RB.out 1
  simp at b1
  have b2 := row_cell RB.out 2
  simp at b2
  have k1 := row_cell RK.out 1
  simp at k1
  have m1 := row_cell RL.out 1
  simp at m1
  go_upto_region 5 with (first | (go_at_call 14; (with_reducible refine (HC1.out _).mono ?_); rintro e w7 ⟨rfl, hb7⟩; (have rb7 := row_mv RB hb7); (have b71 := row_cell rb7.out 1); (have b72 := row_cell rb7.out 2); (simp at b71 b72); clear rb7) | (go_at_call 14; (with_reducible refine (HC2.out _).mono ?_); rintro e w8 ⟨rfl, hb8⟩))
  have hb9 := hb7.trans (hb8.mono hb7.size)
  clear a0 a1 a2 b0 b1 b2 k1 m1
  clear b71 b72
  replace RA := row_mv RA hb9
  replace RB := row_mv RB hb9
  replace RK := row_mv RK hb9
  replace RL := row_mv RL hb9
  replace B := bel_mv B hb9
  clear hb7 hb8 hb9
  have a1 := row_cell RA.out 1
  simp at a1
  have y0 := row_cell RK.out 0
  have y1 := row_cell RK.out 1
  have y2 := row_cell RK.out 2
  have y3 := row_cell RK.out 3
  simp at y0 y1 y2 y3
  go_upto_region 6 with (go_at_call 39; (with_reducible refine (HN1.out _ _).mono ?_); rintro e w11 ⟨rfl, hb11⟩)
  clear a1 y0 y1 y2 y3
  obtain ⟨rn, hn⟩ := box1 w11 (.cells #[.bool p1, .bool q1, .bool r1, .string D1, .int .i64 e1] 61)
  generalize World.alloc w11 _ = w12 at rn hn ⊢
  have hbn := hb11.trans (hn.mono hb11.size)
  replace RA := row_mv RA hbn
  replace RB := row_mv RB hbn
  replace RK := row_mv RK hbn
  replace RL := row_mv RL hbn
  replace B := bel_mv B hbn
  have RN1 := Lib.hid rn
  clear rn hn hb11 hbn
  have a1 := row_cell RB.out 1
  simp at a1
  have y0 := row_cell RL.out 0
  have y1 := row_cell RL.out 1
  have y2 := row_cell RL.out 2
  have y3 := row_cell RL.out 3
  simp at y0 y1 y2 y3
  go_upto_region 7 with (go_at_call 39; (with_reducible refine (HN2.out _ _).mono ?_); rintro e w13 ⟨rfl, hb13⟩)
  clear a1 y0 y1 y2 y3
  obtain ⟨rn, hn⟩ := box1 w13 (.cells #[.bool p2, .bool q2, .bool r2, .string D2, .int .i64 e2] 61)
  generalize World.alloc w13 _ = w14 at rn hn ⊢
  have hbn := hb13.trans (hn.mono hb13.size)
  replace RA := row_mv RA hbn
  replace RB := row_mv RB hbn
  replace RK := row_mv RK hbn
  replace RL := row_mv RL hbn
  replace RN1 := row_mv RN1 hbn
  replace B := bel_mv B hbn
  have RN2 := Lib.hid rn
  clear rn hn hb13 hbn
  clear RN1 RN2
  have k1 := row_cell RK.out 1
  simp at k1
  have m1 := row_cell RL.out 1
  simp at m1
  have a1 := row_cell RA.out 1
  simp at a1
  have b1 := row_cell RB.out 1
  simp at b1
  have hi9 : ∀ mm : Mo8, (Tryz.prog.info? 69).map (·.size) = some mm.cells.size := fun mm => by kernel_rfl
  have one : ∀ mm : Mo8, mm.cells.all (·.oneCell') = true := fun mm => by simp [Mo8.cells, Value.oneCell']
  have HI := Lib.hid hi9
  have ONE := Lib.hid one
  clear hi9 one
  go_wp2_with (first
   | (go_at_call 44; (with_reducible refine (HR1.out _).mono ?_); rintro e wx ⟨mm, rfl, hbx, hP⟩; (have HPX := Lib.hid hP); (have HBX := Lib.hid hbx); (have rb := row_mv RB hbx); (have rk := row_mv RK hbx); (have rl := row_mv RL hbx); clear hP hbx k1 m1 a1 b1)
   | (go_at_call 44; (with_reducible refine (HR2.out _).mono ?_); rintro e wy ⟨mn, rfl, hby, hQ⟩; (have HPY := Lib.hid hQ); (have HBY := Lib.hid hby); (have rk2 := row_mv RK5 hby); (have rm2 := row_mv RM hby); clear hQ hby kx mx bx)
   | (refine wpList_store_row rfl 69 _ _ rfl wx.heap.size mm.cells rfl rfl _ _ (heap_alloc_new _ _) (HI.out mm) rfl (ONE.out mm) ?_; (have hq3 := cp_after wx mm.cells #[.int .i64 0, .int .i64 0, .int .i64 0, .int .i64 0, .int .i64 0, .int .i64 0, .string ⟨#[]⟩, .bool false, .int .i64 0]); (generalize World.setRow _ _ _ = w5 at hq3 ⊢); (have HB5 := Lib.hid hq3.2); (have RM : Hid (w5.heap[wx.heap.size]? = some (.cells mm.cells 69 (0, 0))) := Lib.hid hq3.1); (have rb5 := row_mv rb hq3.2); (have RK5 := row_mv rk hq3.2); (have rl5 := row_mv rl hq3.2); (have bx := row_cell rb5.out 1); (have mx := row_cell rl5.out 1); (have kx := row_cell RK5.out 1); (simp at bx mx kx); clear hq3 rb rk rl rb5 rl5)
   | (refine wpList_store_row rfl 69 _ _ rfl wy.heap.size mn.cells rfl rfl _ _ (heap_alloc_new _ _) (HI.out mn) rfl (ONE.out mn) ?_; (have hq4 := cp_after wy mn.cells #[.int .i64 0, .int .i64 0, .int .i64 0, .int .i64 0, .int .i64 0, .int .i64 0, .string ⟨#[]⟩, .bool false, .int .i64 0]); (generalize World.setRow _ _ _ = w6 at hq4 ⊢); (have HB6 := Lib.hid hq4.2); (have RN : Hid (w6.heap[wy.heap.size]? = some (.cells mn.cells 69 (0, 0))) := Lib.hid hq4.1); (have RM6 := row_mv rm2 hq4.2); (have rk6 := row_mv rk2 hq4.2); (have ky := row_cell rk6.out 1); (simp at ky); clear hq4 rm2 rk2 rk6)
   | (refine wpList_load_row rfl 69 _ rfl wx.heap.size rfl _ mm.cells _ _ RM6.out Tryz.underlying69 rfl (HI.out mm) ?_)
   | (refine wpList_load_row rfl 69 _ rfl wy.heap.size rfl _ mn.cells _ _ RN.out Tryz.underlying69 rfl (HI.out mn) ?_)
   | (go_at_call 45; (with_reducible refine (HM.out _ _ HPX.out HPY.out _).mono ?_); rintro e w9 ⟨rfl, hb9⟩))
  go_ret2
  have q1 := B.out.trans (HBX.out.mono B.out.size)
  have q2 := q1.trans (HB5.out.mono q1.size)
  have q3 := q2.trans (HBY.out.mono q2.size)
  have q4 := q3.trans (HB6.out.mono q3.size)
  exact ⟨rfl, q4.trans (hb9.mono q4.size)⟩
set_option maxRecDepth 100000 in
set_option maxHeartbeats 8000000 in
theorem cp_m7 (xa ta la xb tb lb : ByteArray) (w : World) (lo1 hi1 lo2 hi2 : ByteArray) (hk1 : KnC ta 7 lo1 hi1) (hk2 : KnC tb 7 lo2 hi2) (hc1 : CkC ta xa 0) (hc2 : CkC tb xb 0) (p1 q1 r1 : Bool) (D1 : ByteArray) (e1 : Int) (p2 q2 r2 : Bool) (D2 : ByteArray) (e2 : Int) (hn1 : NuC 7 lo1 hi1 xa p1 q1 r1 D1 e1 false) (hn2 : NuC 7 lo2 hi2 xb p2 q2 r2 D2 e2 false) (P Q : Mo8 → Prop) (c : Int) (ok : Bool) (hr1 : RdC 7 xa P) (hr2 : RdC 7 xb Q) (hm : ∀ a b : Mo8, P a → Q b → ∀ w, Calls Tryz.prog 45 #[.agg a.cells, .agg b.cells, .int .i64 7] w fun e w' => e = .returned (.tuple #[.int .i64 c, .bool ok]) ∧ Below w.heap.size w w') :
    Calls Tryz.prog 18 #[.agg #[.int .i64 3, .string xa, .string ta, .string la], .agg #[.int .i64 3, .string xb, .string tb, .string lb]] w fun e w' => e = .returned (.tuple #[.int .i64 c, .bool ok]) ∧ Below w.heap.size w w' := by
  have HC1 := Lib.hid hc1
  have HC2 := Lib.hid hc2
  clear hc1 hc2
  have HK1 := Lib.hid hk1
  have HK2 := Lib.hid hk2
  clear hk1 hk2
  have HN1 := Lib.hid hn1
  have HN2 := Lib.hid hn2
  clear hn1 hn2
  have HR1 := Lib.hid hr1
  have HR2 := Lib.hid hr2
  have HM := Lib.hid hm
  clear hr1 hr2 hm
  go_enter Tryz.func18, Tryz.ntmps18
  go_upto_region 1 with fail
  obtain ⟨ra, rb, hb⟩ := box2 w (.cells #[.int .i64 3, .string xa, .string ta, .string la] 33) (.cells #[.int .i64 3, .string xb, .string tb, .string lb] 33)
  generalize World.alloc (World.alloc w _) _ = w2 at ra rb hb ⊢
  have RA := Lib.hid ra
  have RB := Lib.hid rb
  have B := Lib.hid hb
  clear ra rb hb
  have a2 := row_cell RA.out 2
  simp at a2
  go_upto_region 2 with (go_at_call 25; (with_reducible refine (HK1.out _).mono ?_); rintro e w3 ⟨n1, rfl, hb3⟩)
  clear a2
  obtain ⟨rk, hk⟩ := box1 w3 (.cells #[.string n1, .int .i64 7, .string lo1, .string hi1] 48)
  generalize World.alloc w3 _ = w4 at rk hk ⊢
  have hb4 := hb3.trans (hk.mono hb3.size)
  replace RA := row_mv RA hb4
  replace RB := row_mv RB hb4
  replace B := bel_mv B hb4
  have RK := Lib.hid rk
  clear rk hk hb3 hb4
  have b2 := row_cell RB.out 2
  simp at b2
  go_upto_region 3 with (go_at_call 25; (with_reducible refine (HK2.out _).mono ?_); rintro e w5 ⟨n2, rfl, hb5⟩)
  clear b2
  obtain ⟨rl, hl⟩ := box1 w5 (.cells #[.string n2, .int .i64 7, .string lo2, .string hi2] 48)
  generalize World.alloc w5 _ = w6 at rl hl ⊢
  have hb6 := hb5.trans (hl.mono hb5.size)
  replace RA := row_mv RA hb6
  replace RB := row_mv RB hb6
  replace RK := row_mv RK hb6
  replace B := bel_mv B hb6
  have RL := Lib.hid rl
  clear rl hl hb5 hb6
  have a0 := row_cell RA.out 0
  simp at a0
  have a1 := row_cell RA.out 1
  simp at a1
  have a2 := row_cell RA.out 2
  simp at a2
  have b0 := row_cell RB.out 0
  simp at b0
  have b1 := row_cell RB.out 1
  simp at b1
  have b2 := row_cell RB.out 2
  simp at b2
  have k1 := row_cell RK.out 1
  simp at k1
  have m1 := row_cell RL.out 1
  simp at m1
  go_upto_region 5 with (first | (go_at_call 14; (with_reducible refine (HC1.out _).mono ?_); rintro e w7 ⟨rfl, hb7⟩; (have rb7 := row_mv RB hb7); (have b71 := row_cell rb7.out 1); (have b72 := row_cell rb7.out 2); (simp at b71 b72); clear rb7) | (go_at_call 14; (with_reducible refine (HC2.out _).mono ?_); rintro e w8 ⟨rfl, hb8⟩))
  have hb9 := hb7.trans (hb8.mono hb7.size)
  clear a0 a1 a2 b0 b1 b2 k1 m1
  clear b71 b72
  replace RA := row_mv RA hb9
  replace RB := row_mv RB hb9
  replace RK := row_mv RK hb9
  replace RL := row_mv RL hb9
  replace B := bel_mv B hb9
  clear hb7 hb8 hb9
  have a1 := row_cell RA.out 1
  simp at a1
  have y0 := row_cell RK.out 0
  have y1 := row_cell RK.out 1
  have y2 := row_cell RK.out 2
  have y3 := row_cell RK.out 3
  simp at y0 y1 y2 y3
  go_upto_region 6 with (go_at_call 39; (with_reducible refine (HN1.out _ _).mono ?_); rintro e w11 ⟨rfl, hb11⟩)
  clear a1 y0 y1 y2 y3
  obtain ⟨rn, hn⟩ := box1 w11 (.cells #[.bool p1, .bool q1, .bool r1, .string D1, .int .i64 e1] 61)
  generalize World.alloc w11 _ = w12 at rn hn ⊢
  have hbn := hb11.trans (hn.mono hb11.size)
  replace RA := row_mv RA hbn
  replace RB := row_mv RB hbn
  replace RK := row_mv RK hbn
  replace RL := row_mv RL hbn
  replace B := bel_mv B hbn
  have RN1 := Lib.hid rn
  clear rn hn hb11 hbn
  have a1 := row_cell RB.out 1
  simp at a1
  have y0 := row_cell RL.out 0
  have y1 := row_cell RL.out 1
  have y2 := row_cell RL.out 2
  have y3 := row_cell RL.out 3
  simp at y0 y1 y2 y3
  go_upto_region 7 with (go_at_call 39; (with_reducible refine (HN2.out _ _).mono ?_); rintro e w13 ⟨rfl, hb13⟩)
  clear a1 y0 y1 y2 y3
  obtain ⟨rn, hn⟩ := box1 w13 (.cells #[.bool p2, .bool q2, .bool r2, .string D2, .int .i64 e2] 61)
  generalize World.alloc w13 _ = w14 at rn hn ⊢
  have hbn := hb13.trans (hn.mono hb13.size)
  replace RA := row_mv RA hbn
  replace RB := row_mv RB hbn
  replace RK := row_mv RK hbn
  replace RL := row_mv RL hbn
  replace RN1 := row_mv RN1 hbn
  replace B := bel_mv B hbn
  have RN2 := Lib.hid rn
  clear rn hn hb13 hbn
  clear RN1 RN2
  have k1 := row_cell RK.out 1
  simp at k1
  have m1 := row_cell RL.out 1
  simp at m1
  have a1 := row_cell RA.out 1
  simp at a1
  have b1 := row_cell RB.out 1
  simp at b1
  have hi9 : ∀ mm : Mo8, (Tryz.prog.info? 69).map (·.size) = some mm.cells.size := fun mm => by kernel_rfl
  have one : ∀ mm : Mo8, mm.cells.all (·.oneCell') = true := fun mm => by simp [Mo8.cells, Value.oneCell']
  have HI := Lib.hid hi9
  have ONE := Lib.hid one
  clear hi9 one
  go_wp2_with (first
   | (go_at_call 44; (with_reducible refine (HR1.out _).mono ?_); rintro e wx ⟨mm, rfl, hbx, hP⟩; (have HPX := Lib.hid hP); (have HBX := Lib.hid hbx); (have rb := row_mv RB hbx); (have rk := row_mv RK hbx); (have rl := row_mv RL hbx); clear hP hbx k1 m1 a1 b1)
   | (go_at_call 44; (with_reducible refine (HR2.out _).mono ?_); rintro e wy ⟨mn, rfl, hby, hQ⟩; (have HPY := Lib.hid hQ); (have HBY := Lib.hid hby); (have rk2 := row_mv RK5 hby); (have rm2 := row_mv RM hby); clear hQ hby kx mx bx)
   | (refine wpList_store_row rfl 69 _ _ rfl wx.heap.size mm.cells rfl rfl _ _ (heap_alloc_new _ _) (HI.out mm) rfl (ONE.out mm) ?_; (have hq3 := cp_after wx mm.cells #[.int .i64 0, .int .i64 0, .int .i64 0, .int .i64 0, .int .i64 0, .int .i64 0, .string ⟨#[]⟩, .bool false, .int .i64 0]); (generalize World.setRow _ _ _ = w5 at hq3 ⊢); (have HB5 := Lib.hid hq3.2); (have RM : Hid (w5.heap[wx.heap.size]? = some (.cells mm.cells 69 (0, 0))) := Lib.hid hq3.1); (have rb5 := row_mv rb hq3.2); (have RK5 := row_mv rk hq3.2); (have rl5 := row_mv rl hq3.2); (have bx := row_cell rb5.out 1); (have mx := row_cell rl5.out 1); (have kx := row_cell RK5.out 1); (simp at bx mx kx); clear hq3 rb rk rl rb5 rl5)
   | (refine wpList_store_row rfl 69 _ _ rfl wy.heap.size mn.cells rfl rfl _ _ (heap_alloc_new _ _) (HI.out mn) rfl (ONE.out mn) ?_; (have hq4 := cp_after wy mn.cells #[.int .i64 0, .int .i64 0, .int .i64 0, .int .i64 0, .int .i64 0, .int .i64 0, .string ⟨#[]⟩, .bool false, .int .i64 0]); (generalize World.setRow _ _ _ = w6 at hq4 ⊢); (have HB6 := Lib.hid hq4.2); (have RN : Hid (w6.heap[wy.heap.size]? = some (.cells mn.cells 69 (0, 0))) := Lib.hid hq4.1); (have RM6 := row_mv rm2 hq4.2); (have rk6 := row_mv rk2 hq4.2); (have ky := row_cell rk6.out 1); (simp at ky); clear hq4 rm2 rk2 rk6)
   | (refine wpList_load_row rfl 69 _ rfl wx.heap.size rfl _ mm.cells _ _ RM6.out Tryz.underlying69 rfl (HI.out mm) ?_)
   | (refine wpList_load_row rfl 69 _ rfl wy.heap.size rfl _ mn.cells _ _ RN.out Tryz.underlying69 rfl (HI.out mn) ?_)
   | (go_at_call 45; (with_reducible refine (HM.out _ _ HPX.out HPY.out _).mono ?_); rintro e w9 ⟨rfl, hb9⟩))
  go_ret2
  have q1 := B.out.trans (HBX.out.mono B.out.size)
  have q2 := q1.trans (HB5.out.mono q1.size)
  have q3 := q2.trans (HBY.out.mono q2.size)
  have q4 := q3.trans (HB6.out.mono q3.size)
  exact ⟨rfl, q4.trans (hb9.mono q4.size)⟩
set_option maxRecDepth 100000 in
set_option maxHeartbeats 8000000 in
theorem cp_m8 (xa ta la xb tb lb : ByteArray) (w : World) (lo1 hi1 lo2 hi2 : ByteArray) (hk1 : KnC ta 8 lo1 hi1) (hk2 : KnC tb 8 lo2 hi2) (hc1 : CkC ta xa 0) (hc2 : CkC tb xb 0) (p1 q1 r1 : Bool) (D1 : ByteArray) (e1 : Int) (p2 q2 r2 : Bool) (D2 : ByteArray) (e2 : Int) (hn1 : NuC 8 lo1 hi1 xa p1 q1 r1 D1 e1 false) (hn2 : NuC 8 lo2 hi2 xb p2 q2 r2 D2 e2 false) (P Q : Mo8 → Prop) (c : Int) (ok : Bool) (hr1 : RdC 8 xa P) (hr2 : RdC 8 xb Q) (hm : ∀ a b : Mo8, P a → Q b → ∀ w, Calls Tryz.prog 45 #[.agg a.cells, .agg b.cells, .int .i64 8] w fun e w' => e = .returned (.tuple #[.int .i64 c, .bool ok]) ∧ Below w.heap.size w w') :
    Calls Tryz.prog 18 #[.agg #[.int .i64 3, .string xa, .string ta, .string la], .agg #[.int .i64 3, .string xb, .string tb, .string lb]] w fun e w' => e = .returned (.tuple #[.int .i64 c, .bool ok]) ∧ Below w.heap.size w w' := by
  have HC1 := Lib.hid hc1
  have HC2 := Lib.hid hc2
  clear hc1 hc2
  have HK1 := Lib.hid hk1
  have HK2 := Lib.hid hk2
  clear hk1 hk2
  have HN1 := Lib.hid hn1
  have HN2 := Lib.hid hn2
  clear hn1 hn2
  have HR1 := Lib.hid hr1
  have HR2 := Lib.hid hr2
  have HM := Lib.hid hm
  clear hr1 hr2 hm
  go_enter Tryz.func18, Tryz.ntmps18
  go_upto_region 1 with fail
  obtain ⟨ra, rb, hb⟩ := box2 w (.cells #[.int .i64 3, .string xa, .string ta, .string la] 33) (.cells #[.int .i64 3, .string xb, .string tb, .string lb] 33)
  generalize World.alloc (World.alloc w _) _ = w2 at ra rb hb ⊢
  have RA := Lib.hid ra
  have RB := Lib.hid rb
  have B := Lib.hid hb
  clear ra rb hb
  have a2 := row_cell RA.out 2
  simp at a2
  go_upto_region 2 with (go_at_call 25; (with_reducible refine (HK1.out _).mono ?_); rintro e w3 ⟨n1, rfl, hb3⟩)
  clear a2
  obtain ⟨rk, hk⟩ := box1 w3 (.cells #[.string n1, .int .i64 8, .string lo1, .string hi1] 48)
  generalize World.alloc w3 _ = w4 at rk hk ⊢
  have hb4 := hb3.trans (hk.mono hb3.size)
  replace RA := row_mv RA hb4
  replace RB := row_mv RB hb4
  replace B := bel_mv B hb4
  have RK := Lib.hid rk
  clear rk hk hb3 hb4
  have b2 := row_cell RB.out 2
  simp at b2
  go_upto_region 3 with (go_at_call 25; (with_reducible refine (HK2.out _).mono ?_); rintro e w5 ⟨n2, rfl, hb5⟩)
  clear b2
  obtain ⟨rl, hl⟩ := box1 w5 (.cells #[.string n2, .int .i64 8, .string lo2, .string hi2] 48)
  generalize World.alloc w5 _ = w6 at rl hl ⊢
  have hb6 := hb5.trans (hl.mono hb5.size)
  replace RA := row_mv RA hb6
  replace RB := row_mv RB hb6
  replace RK := row_mv RK hb6
  replace B := bel_mv B hb6
  have RL := Lib.hid rl
  clear rl hl hb5 hb6
  have a0 := row_cell RA.out 0
  simp at a0
  have a1 := row_cell RA.out 1
  simp at a1
  have a2 := row_cell RA.out 2
  simp at a2
  have b0 := row_cell RB.out 0
  simp at b0
  have b1 := row_cell RB.out 1
  simp at b1
  have b2 := row_cell RB.out 2
  simp at b2
  have k1 := row_cell RK.out 1
  simp at k1
  have m1 := row_cell RL.out 1
  simp at m1
  go_upto_region 5 with (first | (go_at_call 14; (with_reducible refine (HC1.out _).mono ?_); rintro e w7 ⟨rfl, hb7⟩; (have rb7 := row_mv RB hb7); (have b71 := row_cell rb7.out 1); (have b72 := row_cell rb7.out 2); (simp at b71 b72); clear rb7) | (go_at_call 14; (with_reducible refine (HC2.out _).mono ?_); rintro e w8 ⟨rfl, hb8⟩))
  have hb9 := hb7.trans (hb8.mono hb7.size)
  clear a0 a1 a2 b0 b1 b2 k1 m1
  clear b71 b72
  replace RA := row_mv RA hb9
  replace RB := row_mv RB hb9
  replace RK := row_mv RK hb9
  replace RL := row_mv RL hb9
  replace B := bel_mv B hb9
  clear hb7 hb8 hb9
  have a1 := row_cell RA.out 1
  simp at a1
  have y0 := row_cell RK.out 0
  have y1 := row_cell RK.out 1
  have y2 := row_cell RK.out 2
  have y3 := row_cell RK.out 3
  simp at y0 y1 y2 y3
  go_upto_region 6 with (go_at_call 39; (with_reducible refine (HN1.out _ _).mono ?_); rintro e w11 ⟨rfl, hb11⟩)
  clear a1 y0 y1 y2 y3
  obtain ⟨rn, hn⟩ := box1 w11 (.cells #[.bool p1, .bool q1, .bool r1, .string D1, .int .i64 e1] 61)
  generalize World.alloc w11 _ = w12 at rn hn ⊢
  have hbn := hb11.trans (hn.mono hb11.size)
  replace RA := row_mv RA hbn
  replace RB := row_mv RB hbn
  replace RK := row_mv RK hbn
  replace RL := row_mv RL hbn
  replace B := bel_mv B hbn
  have RN1 := Lib.hid rn
  clear rn hn hb11 hbn
  have a1 := row_cell RB.out 1
  simp at a1
  have y0 := row_cell RL.out 0
  have y1 := row_cell RL.out 1
  have y2 := row_cell RL.out 2
  have y3 := row_cell RL.out 3
  simp at y0 y1 y2 y3
  go_upto_region 7 with (go_at_call 39; (with_reducible refine (HN2.out _ _).mono ?_); rintro e w13 ⟨rfl, hb13⟩)
  clear a1 y0 y1 y2 y3
  obtain ⟨rn, hn⟩ := box1 w13 (.cells #[.bool p2, .bool q2, .bool r2, .string D2, .int .i64 e2] 61)
  generalize World.alloc w13 _ = w14 at rn hn ⊢
  have hbn := hb13.trans (hn.mono hb13.size)
  replace RA := row_mv RA hbn
  replace RB := row_mv RB hbn
  replace RK := row_mv RK hbn
  replace RL := row_mv RL hbn
  replace RN1 := row_mv RN1 hbn
  replace B := bel_mv B hbn
  have RN2 := Lib.hid rn
  clear rn hn hb13 hbn
  clear RN1 RN2
  have k1 := row_cell RK.out 1
  simp at k1
  have m1 := row_cell RL.out 1
  simp at m1
  have a1 := row_cell RA.out 1
  simp at a1
  have b1 := row_cell RB.out 1
  simp at b1
  have hi9 : ∀ mm : Mo8, (Tryz.prog.info? 69).map (·.size) = some mm.cells.size := fun mm => by kernel_rfl
  have one : ∀ mm : Mo8, mm.cells.all (·.oneCell') = true := fun mm => by simp [Mo8.cells, Value.oneCell']
  have HI := Lib.hid hi9
  have ONE := Lib.hid one
  clear hi9 one
  go_wp2_with (first
   | (go_at_call 44; (with_reducible refine (HR1.out _).mono ?_); rintro e wx ⟨mm, rfl, hbx, hP⟩; (have HPX := Lib.hid hP); (have HBX := Lib.hid hbx); (have rb := row_mv RB hbx); (have rk := row_mv RK hbx); (have rl := row_mv RL hbx); clear hP hbx k1 m1 a1 b1)
   | (go_at_call 44; (with_reducible refine (HR2.out _).mono ?_); rintro e wy ⟨mn, rfl, hby, hQ⟩; (have HPY := Lib.hid hQ); (have HBY := Lib.hid hby); (have rk2 := row_mv RK5 hby); (have rm2 := row_mv RM hby); clear hQ hby kx mx bx)
   | (refine wpList_store_row rfl 69 _ _ rfl wx.heap.size mm.cells rfl rfl _ _ (heap_alloc_new _ _) (HI.out mm) rfl (ONE.out mm) ?_; (have hq3 := cp_after wx mm.cells #[.int .i64 0, .int .i64 0, .int .i64 0, .int .i64 0, .int .i64 0, .int .i64 0, .string ⟨#[]⟩, .bool false, .int .i64 0]); (generalize World.setRow _ _ _ = w5 at hq3 ⊢); (have HB5 := Lib.hid hq3.2); (have RM : Hid (w5.heap[wx.heap.size]? = some (.cells mm.cells 69 (0, 0))) := Lib.hid hq3.1); (have rb5 := row_mv rb hq3.2); (have RK5 := row_mv rk hq3.2); (have rl5 := row_mv rl hq3.2); (have bx := row_cell rb5.out 1); (have mx := row_cell rl5.out 1); (have kx := row_cell RK5.out 1); (simp at bx mx kx); clear hq3 rb rk rl rb5 rl5)
   | (refine wpList_store_row rfl 69 _ _ rfl wy.heap.size mn.cells rfl rfl _ _ (heap_alloc_new _ _) (HI.out mn) rfl (ONE.out mn) ?_; (have hq4 := cp_after wy mn.cells #[.int .i64 0, .int .i64 0, .int .i64 0, .int .i64 0, .int .i64 0, .int .i64 0, .string ⟨#[]⟩, .bool false, .int .i64 0]); (generalize World.setRow _ _ _ = w6 at hq4 ⊢); (have HB6 := Lib.hid hq4.2); (have RN : Hid (w6.heap[wy.heap.size]? = some (.cells mn.cells 69 (0, 0))) := Lib.hid hq4.1); (have RM6 := row_mv rm2 hq4.2); (have rk6 := row_mv rk2 hq4.2); (have ky := row_cell rk6.out 1); (simp at ky); clear hq4 rm2 rk2 rk6)
   | (refine wpList_load_row rfl 69 _ rfl wx.heap.size rfl _ mm.cells _ _ RM6.out Tryz.underlying69 rfl (HI.out mm) ?_)
   | (refine wpList_load_row rfl 69 _ rfl wy.heap.size rfl _ mn.cells _ _ RN.out Tryz.underlying69 rfl (HI.out mn) ?_)
   | (go_at_call 45; (with_reducible refine (HM.out _ _ HPX.out HPY.out _).mono ?_); rintro e w9 ⟨rfl, hb9⟩))
  go_ret2
  have q1 := B.out.trans (HBX.out.mono B.out.size)
  have q2 := q1.trans (HB5.out.mono q1.size)
  have q3 := q2.trans (HBY.out.mono q2.size)
  have q4 := q3.trans (HB6.out.mono q3.size)
  exact ⟨rfl, q4.trans (hb9.mono q4.size)⟩
end Go.Proofs.YtlhcejbimlilaaaGreatDoor
