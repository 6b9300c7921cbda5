/- VdI VbB, laid as one. -/
import Derived.Test.YtlhcejbimlilaaaGreatDoorVdH
import Derived.Test.YtlhcejbimlilaaaGreatDoorVbA
set_option linter.unusedVariables false
set_option linter.unusedSimpArgs false
/- The document's within (written by gen_vdi.py). -/
namespace Go.Proofs.YtlhcejbimlilaaaGreatDoor
open Go.RowKit Go.Tk
set_option maxRecDepth 100000 in
set_option maxHeartbeats 4000000 in
theorem wi_00 (nm lo hi s : ByteArray) (lk : Int) (w : World) (n1 n2 n3 : Bool) (nd : ByteArray) (np : Int) (l1 l2 l3 : Bool) (ld : ByteArray) (lp : Int) (h1 h2 h3 : Bool) (hd : ByteArray) (hp : Int) (ok1 ok2 ok3 : Bool) (c1 c2 : Int) (el : (lo.toList == []) = true) (eh : (hi.toList == []) = true)
    (hs : ∀ w, Calls Tryz.prog 70 #[.string s, .int .i64 0] w fun e w' => e = .returned (.tuple #[.agg #[.bool n1, .bool n2, .bool n3, .string nd, .int .i64 np], .bool ok1]) ∧ Below w.heap.size w w') (hl : ∀ w, Calls Tryz.prog 70 #[.string lo, .int .i64 0] w fun e w' => e = .returned (.tuple #[.agg #[.bool l1, .bool l2, .bool l3, .string ld, .int .i64 lp], .bool ok2]) ∧ Below w.heap.size w w') (hh : ∀ w, Calls Tryz.prog 70 #[.string hi, .int .i64 0] w fun e w' => e = .returned (.tuple #[.agg #[.bool h1, .bool h2, .bool h3, .string hd, .int .i64 hp], .bool ok3]) ∧ Below w.heap.size w w') :
    Calls Tryz.prog 72 #[.agg #[.string nm, .int .i64 lk, .string lo, .string hi], .string s] w fun e w' => e = .returned (.bool true) ∧ Below w.heap.size w w' := by
  have HS := Lib.hid hs
  have HL := Lib.hid hl
  have HH := Lib.hid hh
  clear hs hl hh
  go_enter Tryz.func72, Tryz.ntmps72
  go_upto_region 1 with fail
  obtain ⟨rk, hb⟩ := box1 w (.cells #[.string nm, .int .i64 lk, .string lo, .string hi] 48)
  generalize World.alloc w _ = w2 at rk hb ⊢
  have HB := Lib.hid hb
  have HRk := Lib.hid rk
  clear hb rk
  go_upto_region 2 with (go_at_call 70; (with_reducible refine (HS.out _).mono ?_); rintro e w1 ⟨rfl, hbx⟩)
  replace HB := Lib.hid (HB.out.trans (hbx.mono HB.out.size))
  replace HRk := Lib.hid ((hbx.block _ (lt_of_block HRk.out)).trans HRk.out)
  clear hbx
  obtain ⟨rx, hbx⟩ := box1 w1 (.cells #[.bool n1, .bool n2, .bool n3, .string nd, .int .i64 np] 61)
  generalize World.alloc w1 _ = w3 at rx hbx ⊢
  replace HB := Lib.hid (HB.out.trans (hbx.mono HB.out.size))
  replace HRk := Lib.hid ((hbx.block _ (lt_of_block HRk.out)).trans HRk.out)
  have HRn := Lib.hid rx
  clear hbx rx
  have rk := HRk.out
  have k0 := row_cell rk 0
  have k1 := row_cell rk 1
  have k2 := row_cell rk 2
  have k3 := row_cell rk 3
  simp at k0 k1 k2 k3
  clear rk
  go_upto_region 3 with (go_at_call 70; (with_reducible refine (HL.out _).mono ?_); rintro e w1 ⟨rfl, hbx⟩)
  replace HB := Lib.hid (HB.out.trans (hbx.mono HB.out.size))
  clear k0 k1 k2 k3
  replace HRk := Lib.hid ((hbx.block _ (lt_of_block HRk.out)).trans HRk.out)
  replace HRn := Lib.hid ((hbx.block _ (lt_of_block HRn.out)).trans HRn.out)
  clear hbx
  obtain ⟨rx, hbx⟩ := box1 w1 (.cells #[.bool l1, .bool l2, .bool l3, .string ld, .int .i64 lp] 61)
  generalize World.alloc w1 _ = w4 at rx hbx ⊢
  replace HB := Lib.hid (HB.out.trans (hbx.mono HB.out.size))
  replace HRk := Lib.hid ((hbx.block _ (lt_of_block HRk.out)).trans HRk.out)
  replace HRn := Lib.hid ((hbx.block _ (lt_of_block HRn.out)).trans HRn.out)
  have HRl := Lib.hid rx
  clear hbx rx
  have rk := HRk.out
  have k0 := row_cell rk 0
  have k1 := row_cell rk 1
  have k2 := row_cell rk 2
  have k3 := row_cell rk 3
  simp at k0 k1 k2 k3
  clear rk
  go_upto_region 4 with (go_at_call 70; (with_reducible refine (HH.out _).mono ?_); rintro e w1 ⟨rfl, hbx⟩)
  replace HB := Lib.hid (HB.out.trans (hbx.mono HB.out.size))
  clear k0 k1 k2 k3
  replace HRk := Lib.hid ((hbx.block _ (lt_of_block HRk.out)).trans HRk.out)
  replace HRn := Lib.hid ((hbx.block _ (lt_of_block HRn.out)).trans HRn.out)
  replace HRl := Lib.hid ((hbx.block _ (lt_of_block HRl.out)).trans HRl.out)
  clear hbx
  obtain ⟨rx, hbx⟩ := box1 w1 (.cells #[.bool h1, .bool h2, .bool h3, .string hd, .int .i64 hp] 61)
  generalize World.alloc w1 _ = w5 at rx hbx ⊢
  replace HB := Lib.hid (HB.out.trans (hbx.mono HB.out.size))
  replace HRk := Lib.hid ((hbx.block _ (lt_of_block HRk.out)).trans HRk.out)
  replace HRn := Lib.hid ((hbx.block _ (lt_of_block HRn.out)).trans HRn.out)
  replace HRl := Lib.hid ((hbx.block _ (lt_of_block HRl.out)).trans HRl.out)
  have HRh := Lib.hid rx
  clear hbx rx
  have rk := HRk.out
  have k0 := row_cell rk 0
  have k1 := row_cell rk 1
  have k2 := row_cell rk 2
  have k3 := row_cell rk 3
  simp at k0 k1 k2 k3
  clear rk
  have rr := HRn.out
  have nc0 := row_cell rr 0
  have nc1 := row_cell rr 1
  have nc2 := row_cell rr 2
  have nc3 := row_cell rr 3
  have nc4 := row_cell rr 4
  simp at nc0 nc1 nc2 nc3 nc4
  clear rr
  have rr := HRl.out
  have lc0 := row_cell rr 0
  have lc1 := row_cell rr 1
  have lc2 := row_cell rr 2
  have lc3 := row_cell rr 3
  have lc4 := row_cell rr 4
  simp at lc0 lc1 lc2 lc3 lc4
  clear rr
  have rr := HRh.out
  have hc0 := row_cell rr 0
  have hc1 := row_cell rr 1
  have hc2 := row_cell rr 2
  have hc3 := row_cell rr 3
  have hc4 := row_cell rr 4
  simp at hc0 hc1 hc2 hc3 hc4
  clear rr
  go_wp2_with fail
  go_ret
  exact ⟨rfl, HB.out⟩
set_option maxRecDepth 100000 in
set_option maxHeartbeats 4000000 in
theorem wi_01 (nm lo hi s : ByteArray) (lk : Int) (w : World) (n1 n2 n3 : Bool) (nd : ByteArray) (np : Int) (l1 l2 l3 : Bool) (ld : ByteArray) (lp : Int) (h1 h2 h3 : Bool) (hd : ByteArray) (hp : Int) (ok1 ok2 ok3 : Bool) (c1 c2 : Int) (el : (lo.toList == []) = true) (eh : (hi.toList == []) = false)
    (hs : ∀ w, Calls Tryz.prog 70 #[.string s, .int .i64 0] w fun e w' => e = .returned (.tuple #[.agg #[.bool n1, .bool n2, .bool n3, .string nd, .int .i64 np], .bool ok1]) ∧ Below w.heap.size w w') (hl : ∀ w, Calls Tryz.prog 70 #[.string lo, .int .i64 0] w fun e w' => e = .returned (.tuple #[.agg #[.bool l1, .bool l2, .bool l3, .string ld, .int .i64 lp], .bool ok2]) ∧ Below w.heap.size w w') (hh : ∀ w, Calls Tryz.prog 70 #[.string hi, .int .i64 0] w fun e w' => e = .returned (.tuple #[.agg #[.bool h1, .bool h2, .bool h3, .string hd, .int .i64 hp], .bool ok3]) ∧ Below w.heap.size w w') (ho2 : ∀ w, Calls Tryz.prog 40 #[.agg #[.bool n1, .bool n2, .bool n3, .string nd, .int .i64 np], .agg #[.bool h1, .bool h2, .bool h3, .string hd, .int .i64 hp]] w fun e w' => e = .returned (.int .i64 c2) ∧ Below w.heap.size w w') :
    Calls Tryz.prog 72 #[.agg #[.string nm, .int .i64 lk, .string lo, .string hi], .string s] w fun e w' => e = .returned (.bool (decide (c2 ≤ 0))) ∧ Below w.heap.size w w' := by
  have HS := Lib.hid hs
  have HL := Lib.hid hl
  have HH := Lib.hid hh
  have HO2 := Lib.hid ho2
  clear hs hl hh ho2
  go_enter Tryz.func72, Tryz.ntmps72
  go_upto_region 1 with fail
  obtain ⟨rk, hb⟩ := box1 w (.cells #[.string nm, .int .i64 lk, .string lo, .string hi] 48)
  generalize World.alloc w _ = w2 at rk hb ⊢
  have HB := Lib.hid hb
  have HRk := Lib.hid rk
  clear hb rk
  go_upto_region 2 with (go_at_call 70; (with_reducible refine (HS.out _).mono ?_); rintro e w1 ⟨rfl, hbx⟩)
  replace HB := Lib.hid (HB.out.trans (hbx.mono HB.out.size))
  replace HRk := Lib.hid ((hbx.block _ (lt_of_block HRk.out)).trans HRk.out)
  clear hbx
  obtain ⟨rx, hbx⟩ := box1 w1 (.cells #[.bool n1, .bool n2, .bool n3, .string nd, .int .i64 np] 61)
  generalize World.alloc w1 _ = w3 at rx hbx ⊢
  replace HB := Lib.hid (HB.out.trans (hbx.mono HB.out.size))
  replace HRk := Lib.hid ((hbx.block _ (lt_of_block HRk.out)).trans HRk.out)
  have HRn := Lib.hid rx
  clear hbx rx
  have rk := HRk.out
  have k0 := row_cell rk 0
  have k1 := row_cell rk 1
  have k2 := row_cell rk 2
  have k3 := row_cell rk 3
  simp at k0 k1 k2 k3
  clear rk
  go_upto_region 3 with (go_at_call 70; (with_reducible refine (HL.out _).mono ?_); rintro e w1 ⟨rfl, hbx⟩)
  replace HB := Lib.hid (HB.out.trans (hbx.mono HB.out.size))
  clear k0 k1 k2 k3
  replace HRk := Lib.hid ((hbx.block _ (lt_of_block HRk.out)).trans HRk.out)
  replace HRn := Lib.hid ((hbx.block _ (lt_of_block HRn.out)).trans HRn.out)
  clear hbx
  obtain ⟨rx, hbx⟩ := box1 w1 (.cells #[.bool l1, .bool l2, .bool l3, .string ld, .int .i64 lp] 61)
  generalize World.alloc w1 _ = w4 at rx hbx ⊢
  replace HB := Lib.hid (HB.out.trans (hbx.mono HB.out.size))
  replace HRk := Lib.hid ((hbx.block _ (lt_of_block HRk.out)).trans HRk.out)
  replace HRn := Lib.hid ((hbx.block _ (lt_of_block HRn.out)).trans HRn.out)
  have HRl := Lib.hid rx
  clear hbx rx
  have rk := HRk.out
  have k0 := row_cell rk 0
  have k1 := row_cell rk 1
  have k2 := row_cell rk 2
  have k3 := row_cell rk 3
  simp at k0 k1 k2 k3
  clear rk
  go_upto_region 4 with (go_at_call 70; (with_reducible refine (HH.out _).mono ?_); rintro e w1 ⟨rfl, hbx⟩)
  replace HB := Lib.hid (HB.out.trans (hbx.mono HB.out.size))
  clear k0 k1 k2 k3
  replace HRk := Lib.hid ((hbx.block _ (lt_of_block HRk.out)).trans HRk.out)
  replace HRn := Lib.hid ((hbx.block _ (lt_of_block HRn.out)).trans HRn.out)
  replace HRl := Lib.hid ((hbx.block _ (lt_of_block HRl.out)).trans HRl.out)
  clear hbx
  obtain ⟨rx, hbx⟩ := box1 w1 (.cells #[.bool h1, .bool h2, .bool h3, .string hd, .int .i64 hp] 61)
  generalize World.alloc w1 _ = w5 at rx hbx ⊢
  replace HB := Lib.hid (HB.out.trans (hbx.mono HB.out.size))
  replace HRk := Lib.hid ((hbx.block _ (lt_of_block HRk.out)).trans HRk.out)
  replace HRn := Lib.hid ((hbx.block _ (lt_of_block HRn.out)).trans HRn.out)
  replace HRl := Lib.hid ((hbx.block _ (lt_of_block HRl.out)).trans HRl.out)
  have HRh := Lib.hid rx
  clear hbx rx
  have rk := HRk.out
  have k0 := row_cell rk 0
  have k1 := row_cell rk 1
  have k2 := row_cell rk 2
  have k3 := row_cell rk 3
  simp at k0 k1 k2 k3
  clear rk
  have rr := HRn.out
  have nc0 := row_cell rr 0
  have nc1 := row_cell rr 1
  have nc2 := row_cell rr 2
  have nc3 := row_cell rr 3
  have nc4 := row_cell rr 4
  simp at nc0 nc1 nc2 nc3 nc4
  clear rr
  have rr := HRl.out
  have lc0 := row_cell rr 0
  have lc1 := row_cell rr 1
  have lc2 := row_cell rr 2
  have lc3 := row_cell rr 3
  have lc4 := row_cell rr 4
  simp at lc0 lc1 lc2 lc3 lc4
  clear rr
  have rr := HRh.out
  have hc0 := row_cell rr 0
  have hc1 := row_cell rr 1
  have hc2 := row_cell rr 2
  have hc3 := row_cell rr 3
  have hc4 := row_cell rr 4
  simp at hc0 hc1 hc2 hc3 hc4
  clear rr
  go_wp2_with (go_at_call 40; (with_reducible refine (HO2.out _).mono ?_); rintro e w7 ⟨rfl, hbz⟩)
  go_ret
  exact ⟨rfl, HB.out.trans (hbz.mono HB.out.size)⟩
set_option maxRecDepth 100000 in
set_option maxHeartbeats 4000000 in
theorem wi_10 (nm lo hi s : ByteArray) (lk : Int) (w : World) (n1 n2 n3 : Bool) (nd : ByteArray) (np : Int) (l1 l2 l3 : Bool) (ld : ByteArray) (lp : Int) (h1 h2 h3 : Bool) (hd : ByteArray) (hp : Int) (ok1 ok2 ok3 : Bool) (c1 c2 : Int) (el : (lo.toList == []) = false) (eh : (hi.toList == []) = true) (hc : c1 ≤ 0)
    (hs : ∀ w, Calls Tryz.prog 70 #[.string s, .int .i64 0] w fun e w' => e = .returned (.tuple #[.agg #[.bool n1, .bool n2, .bool n3, .string nd, .int .i64 np], .bool ok1]) ∧ Below w.heap.size w w') (hl : ∀ w, Calls Tryz.prog 70 #[.string lo, .int .i64 0] w fun e w' => e = .returned (.tuple #[.agg #[.bool l1, .bool l2, .bool l3, .string ld, .int .i64 lp], .bool ok2]) ∧ Below w.heap.size w w') (hh : ∀ w, Calls Tryz.prog 70 #[.string hi, .int .i64 0] w fun e w' => e = .returned (.tuple #[.agg #[.bool h1, .bool h2, .bool h3, .string hd, .int .i64 hp], .bool ok3]) ∧ Below w.heap.size w w') (ho1 : ∀ w, Calls Tryz.prog 40 #[.agg #[.bool l1, .bool l2, .bool l3, .string ld, .int .i64 lp], .agg #[.bool n1, .bool n2, .bool n3, .string nd, .int .i64 np]] w fun e w' => e = .returned (.int .i64 c1) ∧ Below w.heap.size w w') :
    Calls Tryz.prog 72 #[.agg #[.string nm, .int .i64 lk, .string lo, .string hi], .string s] w fun e w' => e = .returned (.bool true) ∧ Below w.heap.size w w' := by
  have HS := Lib.hid hs
  have HL := Lib.hid hl
  have HH := Lib.hid hh
  have HO1 := Lib.hid ho1
  clear hs hl hh ho1
  go_enter Tryz.func72, Tryz.ntmps72
  go_upto_region 1 with fail
  obtain ⟨rk, hb⟩ := box1 w (.cells #[.string nm, .int .i64 lk, .string lo, .string hi] 48)
  generalize World.alloc w _ = w2 at rk hb ⊢
  have HB := Lib.hid hb
  have HRk := Lib.hid rk
  clear hb rk
  go_upto_region 2 with (go_at_call 70; (with_reducible refine (HS.out _).mono ?_); rintro e w1 ⟨rfl, hbx⟩)
  replace HB := Lib.hid (HB.out.trans (hbx.mono HB.out.size))
  replace HRk := Lib.hid ((hbx.block _ (lt_of_block HRk.out)).trans HRk.out)
  clear hbx
  obtain ⟨rx, hbx⟩ := box1 w1 (.cells #[.bool n1, .bool n2, .bool n3, .string nd, .int .i64 np] 61)
  generalize World.alloc w1 _ = w3 at rx hbx ⊢
  replace HB := Lib.hid (HB.out.trans (hbx.mono HB.out.size))
  replace HRk := Lib.hid ((hbx.block _ (lt_of_block HRk.out)).trans HRk.out)
  have HRn := Lib.hid rx
  clear hbx rx
  have rk := HRk.out
  have k0 := row_cell rk 0
  have k1 := row_cell rk 1
  have k2 := row_cell rk 2
  have k3 := row_cell rk 3
  simp at k0 k1 k2 k3
  clear rk
  go_upto_region 3 with (go_at_call 70; (with_reducible refine (HL.out _).mono ?_); rintro e w1 ⟨rfl, hbx⟩)
  replace HB := Lib.hid (HB.out.trans (hbx.mono HB.out.size))
  clear k0 k1 k2 k3
  replace HRk := Lib.hid ((hbx.block _ (lt_of_block HRk.out)).trans HRk.out)
  replace HRn := Lib.hid ((hbx.block _ (lt_of_block HRn.out)).trans HRn.out)
  clear hbx
  obtain ⟨rx, hbx⟩ := box1 w1 (.cells #[.bool l1, .bool l2, .bool l3, .string ld, .int .i64 lp] 61)
  generalize World.alloc w1 _ = w4 at rx hbx ⊢
  replace HB := Lib.hid (HB.out.trans (hbx.mono HB.out.size))
  replace HRk := Lib.hid ((hbx.block _ (lt_of_block HRk.out)).trans HRk.out)
  replace HRn := Lib.hid ((hbx.block _ (lt_of_block HRn.out)).trans HRn.out)
  have HRl := Lib.hid rx
  clear hbx rx
  have rk := HRk.out
  have k0 := row_cell rk 0
  have k1 := row_cell rk 1
  have k2 := row_cell rk 2
  have k3 := row_cell rk 3
  simp at k0 k1 k2 k3
  clear rk
  go_upto_region 4 with (go_at_call 70; (with_reducible refine (HH.out _).mono ?_); rintro e w1 ⟨rfl, hbx⟩)
  replace HB := Lib.hid (HB.out.trans (hbx.mono HB.out.size))
  clear k0 k1 k2 k3
  replace HRk := Lib.hid ((hbx.block _ (lt_of_block HRk.out)).trans HRk.out)
  replace HRn := Lib.hid ((hbx.block _ (lt_of_block HRn.out)).trans HRn.out)
  replace HRl := Lib.hid ((hbx.block _ (lt_of_block HRl.out)).trans HRl.out)
  clear hbx
  obtain ⟨rx, hbx⟩ := box1 w1 (.cells #[.bool h1, .bool h2, .bool h3, .string hd, .int .i64 hp] 61)
  generalize World.alloc w1 _ = w5 at rx hbx ⊢
  replace HB := Lib.hid (HB.out.trans (hbx.mono HB.out.size))
  replace HRk := Lib.hid ((hbx.block _ (lt_of_block HRk.out)).trans HRk.out)
  replace HRn := Lib.hid ((hbx.block _ (lt_of_block HRn.out)).trans HRn.out)
  replace HRl := Lib.hid ((hbx.block _ (lt_of_block HRl.out)).trans HRl.out)
  have HRh := Lib.hid rx
  clear hbx rx
  have rk := HRk.out
  have k0 := row_cell rk 0
  have k1 := row_cell rk 1
  have k2 := row_cell rk 2
  have k3 := row_cell rk 3
  simp at k0 k1 k2 k3
  clear rk
  have rr := HRn.out
  have nc0 := row_cell rr 0
  have nc1 := row_cell rr 1
  have nc2 := row_cell rr 2
  have nc3 := row_cell rr 3
  have nc4 := row_cell rr 4
  simp at nc0 nc1 nc2 nc3 nc4
  clear rr
  have rr := HRl.out
  have lc0 := row_cell rr 0
  have lc1 := row_cell rr 1
  have lc2 := row_cell rr 2
  have lc3 := row_cell rr 3
  have lc4 := row_cell rr 4
  simp at lc0 lc1 lc2 lc3 lc4
  clear rr
  have rr := HRh.out
  have hc0 := row_cell rr 0
  have hc1 := row_cell rr 1
  have hc2 := row_cell rr 2
  have hc3 := row_cell rr 3
  have hc4 := row_cell rr 4
  simp at hc0 hc1 hc2 hc3 hc4
  clear rr
  go_wp2_with (go_at_call 40; (with_reducible refine (HO1.out _).mono ?_); rintro e w6 ⟨rfl, hby⟩; (have rr := (hby.block _ (lt_of_block HRn.out)).trans HRn.out); (have nd0 := row_cell rr 0); (have nd1 := row_cell rr 1); (have nd2 := row_cell rr 2); (have nd3 := row_cell rr 3); (have nd4 := row_cell rr 4); (simp at nd0 nd1 nd2 nd3 nd4); clear rr; (have rr := (hby.block _ (lt_of_block HRh.out)).trans HRh.out); (have hd0 := row_cell rr 0); (have hd1 := row_cell rr 1); (have hd2 := row_cell rr 2); (have hd3 := row_cell rr 3); (have hd4 := row_cell rr 4); (simp at hd0 hd1 hd2 hd3 hd4); clear rr; (have rr := (hby.block _ (lt_of_block HRk.out)).trans HRk.out); (have kd2 := row_cell rr 2); (have kd3 := row_cell rr 3); (simp at kd2 kd3); clear rr)
  go_ret
  exact ⟨rfl, HB.out.trans (hby.mono HB.out.size)⟩
set_option maxRecDepth 100000 in
set_option maxHeartbeats 4000000 in
theorem wi_11 (nm lo hi s : ByteArray) (lk : Int) (w : World) (n1 n2 n3 : Bool) (nd : ByteArray) (np : Int) (l1 l2 l3 : Bool) (ld : ByteArray) (lp : Int) (h1 h2 h3 : Bool) (hd : ByteArray) (hp : Int) (ok1 ok2 ok3 : Bool) (c1 c2 : Int) (el : (lo.toList == []) = false) (eh : (hi.toList == []) = false) (hc : c1 ≤ 0)
    (hs : ∀ w, Calls Tryz.prog 70 #[.string s, .int .i64 0] w fun e w' => e = .returned (.tuple #[.agg #[.bool n1, .bool n2, .bool n3, .string nd, .int .i64 np], .bool ok1]) ∧ Below w.heap.size w w') (hl : ∀ w, Calls Tryz.prog 70 #[.string lo, .int .i64 0] w fun e w' => e = .returned (.tuple #[.agg #[.bool l1, .bool l2, .bool l3, .string ld, .int .i64 lp], .bool ok2]) ∧ Below w.heap.size w w') (hh : ∀ w, Calls Tryz.prog 70 #[.string hi, .int .i64 0] w fun e w' => e = .returned (.tuple #[.agg #[.bool h1, .bool h2, .bool h3, .string hd, .int .i64 hp], .bool ok3]) ∧ Below w.heap.size w w') (ho1 : ∀ w, Calls Tryz.prog 40 #[.agg #[.bool l1, .bool l2, .bool l3, .string ld, .int .i64 lp], .agg #[.bool n1, .bool n2, .bool n3, .string nd, .int .i64 np]] w fun e w' => e = .returned (.int .i64 c1) ∧ Below w.heap.size w w') (ho2 : ∀ w, Calls Tryz.prog 40 #[.agg #[.bool n1, .bool n2, .bool n3, .string nd, .int .i64 np], .agg #[.bool h1, .bool h2, .bool h3, .string hd, .int .i64 hp]] w fun e w' => e = .returned (.int .i64 c2) ∧ Below w.heap.size w w') :
    Calls Tryz.prog 72 #[.agg #[.string nm, .int .i64 lk, .string lo, .string hi], .string s] w fun e w' => e = .returned (.bool (decide (c2 ≤ 0))) ∧ Below w.heap.size w w' := by
  have HS := Lib.hid hs
  have HL := Lib.hid hl
  have HH := Lib.hid hh
  have HO1 := Lib.hid ho1
  have HO2 := Lib.hid ho2
  clear hs hl hh ho1 ho2
  go_enter Tryz.func72, Tryz.ntmps72
  go_upto_region 1 with fail
  obtain ⟨rk, hb⟩ := box1 w (.cells #[.string nm, .int .i64 lk, .string lo, .string hi] 48)
  generalize World.alloc w _ = w2 at rk hb ⊢
  have HB := Lib.hid hb
  have HRk := Lib.hid rk
  clear hb rk
  go_upto_region 2 with (go_at_call 70; (with_reducible refine (HS.out _).mono ?_); rintro e w1 ⟨rfl, hbx⟩)
  replace HB := Lib.hid (HB.out.trans (hbx.mono HB.out.size))
  replace HRk := Lib.hid ((hbx.block _ (lt_of_block HRk.out)).trans HRk.out)
  clear hbx
  obtain ⟨rx, hbx⟩ := box1 w1 (.cells #[.bool n1, .bool n2, .bool n3, .string nd, .int .i64 np] 61)
  generalize World.alloc w1 _ = w3 at rx hbx ⊢
  replace HB := Lib.hid (HB.out.trans (hbx.mono HB.out.size))
  replace HRk := Lib.hid ((hbx.block _ (lt_of_block HRk.out)).trans HRk.out)
  have HRn := Lib.hid rx
  clear hbx rx
  have rk := HRk.out
  have k0 := row_cell rk 0
  have k1 := row_cell rk 1
  have k2 := row_cell rk 2
  have k3 := row_cell rk 3
  simp at k0 k1 k2 k3
  clear rk
  go_upto_region 3 with (go_at_call 70; (with_reducible refine (HL.out _).mono ?_); rintro e w1 ⟨rfl, hbx⟩)
  replace HB := Lib.hid (HB.out.trans (hbx.mono HB.out.size))
  clear k0 k1 k2 k3
  replace HRk := Lib.hid ((hbx.block _ (lt_of_block HRk.out)).trans HRk.out)
  replace HRn := Lib.hid ((hbx.block _ (lt_of_block HRn.out)).trans HRn.out)
  clear hbx
  obtain ⟨rx, hbx⟩ := box1 w1 (.cells #[.bool l1, .bool l2, .bool l3, .string ld, .int .i64 lp] 61)
  generalize World.alloc w1 _ = w4 at rx hbx ⊢
  replace HB := Lib.hid (HB.out.trans (hbx.mono HB.out.size))
  replace HRk := Lib.hid ((hbx.block _ (lt_of_block HRk.out)).trans HRk.out)
  replace HRn := Lib.hid ((hbx.block _ (lt_of_block HRn.out)).trans HRn.out)
  have HRl := Lib.hid rx
  clear hbx rx
  have rk := HRk.out
  have k0 := row_cell rk 0
  have k1 := row_cell rk 1
  have k2 := row_cell rk 2
  have k3 := row_cell rk 3
  simp at k0 k1 k2 k3
  clear rk
  go_upto_region 4 with (go_at_call 70; (with_reducible refine (HH.out _).mono ?_); rintro e w1 ⟨rfl, hbx⟩)
  replace HB := Lib.hid (HB.out.trans (hbx.mono HB.out.size))
  clear k0 k1 k2 k3
  replace HRk := Lib.hid ((hbx.block _ (lt_of_block HRk.out)).trans HRk.out)
  replace HRn := Lib.hid ((hbx.block _ (lt_of_block HRn.out)).trans HRn.out)
  replace HRl := Lib.hid ((hbx.block _ (lt_of_block HRl.out)).trans HRl.out)
  clear hbx
  obtain ⟨rx, hbx⟩ := box1 w1 (.cells #[.bool h1, .bool h2, .bool h3, .string hd, .int .i64 hp] 61)
  generalize World.alloc w1 _ = w5 at rx hbx ⊢
  replace HB := Lib.hid (HB.out.trans (hbx.mono HB.out.size))
  replace HRk := Lib.hid ((hbx.block _ (lt_of_block HRk.out)).trans HRk.out)
  replace HRn := Lib.hid ((hbx.block _ (lt_of_block HRn.out)).trans HRn.out)
  replace HRl := Lib.hid ((hbx.block _ (lt_of_block HRl.out)).trans HRl.out)
  have HRh := Lib.hid rx
  clear hbx rx
  have rk := HRk.out
  have k0 := row_cell rk 0
  have k1 := row_cell rk 1
  have k2 := row_cell rk 2
  have k3 := row_cell rk 3
  simp at k0 k1 k2 k3
  clear rk
  have rr := HRn.out
  have nc0 := row_cell rr 0
  have nc1 := row_cell rr 1
  have nc2 := row_cell rr 2
  have nc3 := row_cell rr 3
  have nc4 := row_cell rr 4
  simp at nc0 nc1 nc2 nc3 nc4
  clear rr
  have rr := HRl.out
  have lc0 := row_cell rr 0
  have lc1 := row_cell rr 1
  have lc2 := row_cell rr 2
  have lc3 := row_cell rr 3
  have lc4 := row_cell rr 4
  simp at lc0 lc1 lc2 lc3 lc4
  clear rr
  have rr := HRh.out
  have hc0 := row_cell rr 0
  have hc1 := row_cell rr 1
  have hc2 := row_cell rr 2
  have hc3 := row_cell rr 3
  have hc4 := row_cell rr 4
  simp at hc0 hc1 hc2 hc3 hc4
  clear rr
  go_wp2_with (first | (go_at_call 40; (with_reducible refine (HO1.out _).mono ?_); rintro e w6 ⟨rfl, hby⟩; (have rr := (hby.block _ (lt_of_block HRn.out)).trans HRn.out); (have nd0 := row_cell rr 0); (have nd1 := row_cell rr 1); (have nd2 := row_cell rr 2); (have nd3 := row_cell rr 3); (have nd4 := row_cell rr 4); (simp at nd0 nd1 nd2 nd3 nd4); clear rr; (have rr := (hby.block _ (lt_of_block HRh.out)).trans HRh.out); (have hd0 := row_cell rr 0); (have hd1 := row_cell rr 1); (have hd2 := row_cell rr 2); (have hd3 := row_cell rr 3); (have hd4 := row_cell rr 4); (simp at hd0 hd1 hd2 hd3 hd4); clear rr; (have rr := (hby.block _ (lt_of_block HRk.out)).trans HRk.out); (have kd2 := row_cell rr 2); (have kd3 := row_cell rr 3); (simp at kd2 kd3); clear rr) | (go_at_call 40; (with_reducible refine (HO2.out _).mono ?_); rintro e w7 ⟨rfl, hbz⟩))
  go_ret
  exact ⟨rfl, (HB.out.trans (hby.mono HB.out.size)).trans (hbz.mono (HB.out.trans (hby.mono HB.out.size)).size)⟩
set_option maxRecDepth 100000 in
set_option maxHeartbeats 4000000 in
theorem wi_1x (nm lo hi s : ByteArray) (lk : Int) (w : World) (n1 n2 n3 : Bool) (nd : ByteArray) (np : Int) (l1 l2 l3 : Bool) (ld : ByteArray) (lp : Int) (h1 h2 h3 : Bool) (hd : ByteArray) (hp : Int) (ok1 ok2 ok3 : Bool) (c1 c2 : Int) (el : (lo.toList == []) = false) (hc : 0 < c1)
    (hs : ∀ w, Calls Tryz.prog 70 #[.string s, .int .i64 0] w fun e w' => e = .returned (.tuple #[.agg #[.bool n1, .bool n2, .bool n3, .string nd, .int .i64 np], .bool ok1]) ∧ Below w.heap.size w w') (hl : ∀ w, Calls Tryz.prog 70 #[.string lo, .int .i64 0] w fun e w' => e = .returned (.tuple #[.agg #[.bool l1, .bool l2, .bool l3, .string ld, .int .i64 lp], .bool ok2]) ∧ Below w.heap.size w w') (hh : ∀ w, Calls Tryz.prog 70 #[.string hi, .int .i64 0] w fun e w' => e = .returned (.tuple #[.agg #[.bool h1, .bool h2, .bool h3, .string hd, .int .i64 hp], .bool ok3]) ∧ Below w.heap.size w w') (ho1 : ∀ w, Calls Tryz.prog 40 #[.agg #[.bool l1, .bool l2, .bool l3, .string ld, .int .i64 lp], .agg #[.bool n1, .bool n2, .bool n3, .string nd, .int .i64 np]] w fun e w' => e = .returned (.int .i64 c1) ∧ Below w.heap.size w w') :
    Calls Tryz.prog 72 #[.agg #[.string nm, .int .i64 lk, .string lo, .string hi], .string s] w fun e w' => e = .returned (.bool false) ∧ Below w.heap.size w w' := by
  have HS := Lib.hid hs
  have HL := Lib.hid hl
  have HH := Lib.hid hh
  have HO1 := Lib.hid ho1
  clear hs hl hh ho1
  go_enter Tryz.func72, Tryz.ntmps72
  go_upto_region 1 with fail
  obtain ⟨rk, hb⟩ := box1 w (.cells #[.string nm, .int .i64 lk, .string lo, .string hi] 48)
  generalize World.alloc w _ = w2 at rk hb ⊢
  have HB := Lib.hid hb
  have HRk := Lib.hid rk
  clear hb rk
  go_upto_region 2 with (go_at_call 70; (with_reducible refine (HS.out _).mono ?_); rintro e w1 ⟨rfl, hbx⟩)
  replace HB := Lib.hid (HB.out.trans (hbx.mono HB.out.size))
  replace HRk := Lib.hid ((hbx.block _ (lt_of_block HRk.out)).trans HRk.out)
  clear hbx
  obtain ⟨rx, hbx⟩ := box1 w1 (.cells #[.bool n1, .bool n2, .bool n3, .string nd, .int .i64 np] 61)
  generalize World.alloc w1 _ = w3 at rx hbx ⊢
  replace HB := Lib.hid (HB.out.trans (hbx.mono HB.out.size))
  replace HRk := Lib.hid ((hbx.block _ (lt_of_block HRk.out)).trans HRk.out)
  have HRn := Lib.hid rx
  clear hbx rx
  have rk := HRk.out
  have k0 := row_cell rk 0
  have k1 := row_cell rk 1
  have k2 := row_cell rk 2
  have k3 := row_cell rk 3
  simp at k0 k1 k2 k3
  clear rk
  go_upto_region 3 with (go_at_call 70; (with_reducible refine (HL.out _).mono ?_); rintro e w1 ⟨rfl, hbx⟩)
  replace HB := Lib.hid (HB.out.trans (hbx.mono HB.out.size))
  clear k0 k1 k2 k3
  replace HRk := Lib.hid ((hbx.block _ (lt_of_block HRk.out)).trans HRk.out)
  replace HRn := Lib.hid ((hbx.block _ (lt_of_block HRn.out)).trans HRn.out)
  clear hbx
  obtain ⟨rx, hbx⟩ := box1 w1 (.cells #[.bool l1, .bool l2, .bool l3, .string ld, .int .i64 lp] 61)
  generalize World.alloc w1 _ = w4 at rx hbx ⊢
  replace HB := Lib.hid (HB.out.trans (hbx.mono HB.out.size))
  replace HRk := Lib.hid ((hbx.block _ (lt_of_block HRk.out)).trans HRk.out)
  replace HRn := Lib.hid ((hbx.block _ (lt_of_block HRn.out)).trans HRn.out)
  have HRl := Lib.hid rx
  clear hbx rx
  have rk := HRk.out
  have k0 := row_cell rk 0
  have k1 := row_cell rk 1
  have k2 := row_cell rk 2
  have k3 := row_cell rk 3
  simp at k0 k1 k2 k3
  clear rk
  go_upto_region 4 with (go_at_call 70; (with_reducible refine (HH.out _).mono ?_); rintro e w1 ⟨rfl, hbx⟩)
  replace HB := Lib.hid (HB.out.trans (hbx.mono HB.out.size))
  clear k0 k1 k2 k3
  replace HRk := Lib.hid ((hbx.block _ (lt_of_block HRk.out)).trans HRk.out)
  replace HRn := Lib.hid ((hbx.block _ (lt_of_block HRn.out)).trans HRn.out)
  replace HRl := Lib.hid ((hbx.block _ (lt_of_block HRl.out)).trans HRl.out)
  clear hbx
  obtain ⟨rx, hbx⟩ := box1 w1 (.cells #[.bool h1, .bool h2, .bool h3, .string hd, .int .i64 hp] 61)
  generalize World.alloc w1 _ = w5 at rx hbx ⊢
  replace HB := Lib.hid (HB.out.trans (hbx.mono HB.out.size))
  replace HRk := Lib.hid ((hbx.block _ (lt_of_block HRk.out)).trans HRk.out)
  replace HRn := Lib.hid ((hbx.block _ (lt_of_block HRn.out)).trans HRn.out)
  replace HRl := Lib.hid ((hbx.block _ (lt_of_block HRl.out)).trans HRl.out)
  have HRh := Lib.hid rx
  clear hbx rx
  have rk := HRk.out
  have k0 := row_cell rk 0
  have k1 := row_cell rk 1
  have k2 := row_cell rk 2
  have k3 := row_cell rk 3
  simp at k0 k1 k2 k3
  clear rk
  have rr := HRn.out
  have nc0 := row_cell rr 0
  have nc1 := row_cell rr 1
  have nc2 := row_cell rr 2
  have nc3 := row_cell rr 3
  have nc4 := row_cell rr 4
  simp at nc0 nc1 nc2 nc3 nc4
  clear rr
  have rr := HRl.out
  have lc0 := row_cell rr 0
  have lc1 := row_cell rr 1
  have lc2 := row_cell rr 2
  have lc3 := row_cell rr 3
  have lc4 := row_cell rr 4
  simp at lc0 lc1 lc2 lc3 lc4
  clear rr
  have rr := HRh.out
  have hc0 := row_cell rr 0
  have hc1 := row_cell rr 1
  have hc2 := row_cell rr 2
  have hc3 := row_cell rr 3
  have hc4 := row_cell rr 4
  simp at hc0 hc1 hc2 hc3 hc4
  clear rr
  go_wp2_with (go_at_call 40; (with_reducible refine (HO1.out _).mono ?_); rintro e w6 ⟨rfl, hby⟩; (have rr := (hby.block _ (lt_of_block HRn.out)).trans HRn.out); (have nd0 := row_cell rr 0); (have nd1 := row_cell rr 1); (have nd2 := row_cell rr 2); (have nd3 := row_cell rr 3); (have nd4 := row_cell rr 4); (simp at nd0 nd1 nd2 nd3 nd4); clear rr; (have rr := (hby.block _ (lt_of_block HRh.out)).trans HRh.out); (have hd0 := row_cell rr 0); (have hd1 := row_cell rr 1); (have hd2 := row_cell rr 2); (have hd3 := row_cell rr 3); (have hd4 := row_cell rr 4); (simp at hd0 hd1 hd2 hd3 hd4); clear rr; (have rr := (hby.block _ (lt_of_block HRk.out)).trans HRk.out); (have kd2 := row_cell rr 2); (have kd3 := row_cell rr 3); (simp at kd2 kd3); clear rr)
  go_ret
  exact ⟨rfl, HB.out.trans (hby.mono HB.out.size)⟩
end Go.Proofs.YtlhcejbimlilaaaGreatDoor
/- The program's within; the closures of find; find (written by gen_vb1.py). -/
namespace Go.Tk
open Go Go.RowKit
def inN (l : List UInt8) : Nm := (intP l).getD nmZ
def witP (s lo hi : List UInt8) : Bool := match intP s with
  | none => false
  | some n => (decide (lo = []) || decide (0 ≤ (agN n (inN lo)).1)) && (decide (hi = []) || decide ((agN n (inN hi)).1 ≤ 0))
theorem Res1.alloc {T : TypeId} {z : Array Value} {w x : World} (h : Res1 T z w x) (o : Obj) : Res1 T z w (x.alloc o) := h.next ((Below.refl _ _).alloc (Nat.le_refl _) _)
end Go.Tk
namespace Go.Proofs.YtlhcejbimlilaaaGreatDoor
open Go.RowKit Go.Tk
theorem inN_inf (l : List UInt8) : -1 ≤ (inN l).inf ∧ (inN l).inf ≤ 1 := by
  unfold inN
  cases h : intP l with
  | none => simp [nmZ]
  | some n => have := intP_bd h; simp only [Option.getD_some]; omega
set_option maxHeartbeats 4000000 in
theorem within_calls (s lo hi : ByteArray) (w : World) (hs : s.size ≤ 65536) (hl : lo.size ≤ 100) (hh : hi.size ≤ 100) :
    Calls Tryz.prog 67 #[.string s, .string lo, .string hi] w fun e w' => e = .returned (.bool (witP s.data.toList lo.data.toList hi.data.toList)) ∧ Below w.heap.size w w' := by
  have h1 := fun w => integer_calls s w (by omega)
  have h2 := fun w => integer_calls lo w (by omega)
  have h3 := fun w => integer_calls hi w (by omega)
  have hw : witP s.data.toList lo.data.toList hi.data.toList = match intP s.data.toList with
    | none => false
    | some n => (decide (lo.data.toList = []) || decide (0 ≤ (agN n (inN lo.data.toList)).1)) && (decide (hi.data.toList = []) || decide ((agN n (inN hi.data.toList)).1 ≤ 0)) := rfl
  rw [hw]
  clear hw
  cases ho : intP s.data.toList with
  | none =>
    rw [ho] at h1
    have h1 : ∀ w, Calls Tryz.prog 105 #[.string s] w fun e w' => e = .returned (.tuple #[.agg #[.bool false, .string ⟨#[]⟩, .int .i64 0, .int .i64 0, .bool false], .bool false]) ∧ Below w.heap.size w w' := h1
    have HS := Lib.hid h1
    clear h1 h2 h3 ho
    dsimp only
    go_enter Tryz.func67, Tryz.ntmps67
    go_wp2_with (first | (go_at_call 105; (with_reducible refine (HS.out _).mono ?_); rintro e w1 ⟨rfl, hb1⟩))
    go_ret
    exact ⟨rfl, hb1.trans ((Below.refl _ _).alloc hb1.size _)⟩
  | some n =>
  rw [ho] at h1
  have h1 : ∀ w, Calls Tryz.prog 105 #[.string s] w fun e w' => e = .returned (.tuple #[n.val, .bool true]) ∧ Below w.heap.size w w' := h1
  have hni := (intP_bd ho).2.1
  have hal := fun w => against_calls n (inN lo.data.toList) w (by omega) (inN_inf _)
  have hah := fun w => against_calls n (inN hi.data.toList) w (by omega) (inN_inf _)
  dsimp only
  have h2 : ∀ w, Calls Tryz.prog 105 #[.string lo] w fun e w' => e = .returned (.tuple #[(inN lo.data.toList).val, .bool (intP lo.data.toList).isSome]) ∧ Below w.heap.size w w' := h2
  have h3 : ∀ w, Calls Tryz.prog 105 #[.string hi] w fun e w' => e = .returned (.tuple #[(inN hi.data.toList).val, .bool (intP hi.data.toList).isSome]) ∧ Below w.heap.size w w' := h3
  obtain ⟨c1, hc1⟩ : ∃ c, c = (agN n (inN lo.data.toList)).1 := ⟨_, rfl⟩
  obtain ⟨k1, hk1⟩ : ∃ c, c = (agN n (inN lo.data.toList)).2 := ⟨_, rfl⟩
  obtain ⟨c2, hc2⟩ : ∃ c, c = (agN n (inN hi.data.toList)).1 := ⟨_, rfl⟩
  obtain ⟨k2, hk2⟩ : ∃ c, c = (agN n (inN hi.data.toList)).2 := ⟨_, rfl⟩
  rw [← hc1, ← hk1] at hal
  rw [← hc2, ← hk2] at hah
  rw [← hc1, ← hc2]
  clear hc1 hk1 hc2 hk2 ho hni
  have el : (lo.toList == []) = decide (lo.data.toList = []) := by rw [Lib.toList_data]; cases lo.data.toList <;> simp
  have eh : (hi.toList == []) = decide (hi.data.toList = []) := by rw [Lib.toList_data]; cases hi.data.toList <;> simp
  obtain ⟨dl, hdl⟩ : ∃ d, d = decide (lo.data.toList = []) := ⟨_, rfl⟩
  obtain ⟨dh, hdh⟩ : ∃ d, d = decide (hi.data.toList = []) := ⟨_, rfl⟩
  rw [← hdl] at el ⊢
  rw [← hdh] at eh ⊢
  obtain ⟨il, hil⟩ : ∃ d, d = (intP lo.data.toList).isSome := ⟨_, rfl⟩
  obtain ⟨ih, hih⟩ : ∃ d, d = (intP hi.data.toList).isSome := ⟨_, rfl⟩
  rw [← hil] at h2
  rw [← hih] at h3
  obtain ⟨⟨lb, ld, lp, li, ln⟩, hL⟩ : ∃ l, l = inN lo.data.toList := ⟨_, rfl⟩
  obtain ⟨⟨hb, hd, hp, hi', hn⟩, hH⟩ : ∃ l, l = inN hi.data.toList := ⟨_, rfl⟩
  rw [← hL] at h2 hal
  rw [← hH] at h3 hah
  obtain ⟨nb, nd, np, ni, nn⟩ := n
  unfold Nm.val at h1 h2 h3 hal hah
  dsimp only at h1 h2 h3 hal hah
  have HS := Lib.hid h1
  have HL := Lib.hid h2
  have HH := Lib.hid h3
  have HAL := Lib.hid hal
  have HAH := Lib.hid hah
  clear h1 h2 h3 hal hah hL hH hdl hdh hil hih
  cases dl with
  | true =>
    cases dh with
    | true =>
      show Calls _ _ _ _ fun e w' => e = .returned (.bool true) ∧ _
      go_enter Tryz.func67, Tryz.ntmps67
      go_wp2_with (first | (go_at_call 105; (with_reducible refine (HS.out _).mono ?_); rintro e w1 ⟨rfl, hb1⟩))
      go_ret
      exact ⟨rfl, hb1.trans ((Below.refl _ _).alloc hb1.size _)⟩
    | false =>
      by_cases g2 : 0 < c2
      · rw [decide_eq_false (show ¬ c2 ≤ 0 by omega)]
        show Calls _ _ _ _ fun e w' => e = .returned (.bool false) ∧ _
        go_enter Tryz.func67, Tryz.ntmps67
        go_wp2_with (first | (go_at_call 105; (with_reducible refine (HS.out _).mono ?_); rintro e w1 ⟨rfl, hb1⟩) | (go_at_call 105; (with_reducible refine (HH.out _).mono ?_); rintro e w5 ⟨rfl, hb5⟩; (have R5 := (Res1.start 55 #[.bool nb, .string ⟨nd.toArray⟩, .int .i64 np, .int .i64 ni, .bool nn] w1).next hb5); (have l5 := R5.lt); (have c50 : w5.cell? ⟨w1.heap.size, 0, none⟩ = some (.bool nb) := R5.cell 0); (have c51 : w5.cell? ⟨w1.heap.size, 1, none⟩ = some (.string ⟨nd.toArray⟩) := R5.cell 1); (have c52 : w5.cell? ⟨w1.heap.size, 2, none⟩ = some (.int .i64 np) := R5.cell 2); (have c53 : w5.cell? ⟨w1.heap.size, 3, none⟩ = some (.int .i64 ni) := R5.cell 3); (have c54 : w5.cell? ⟨w1.heap.size, 4, none⟩ = some (.bool nn) := R5.cell 4)) | (go_at_call 30; (with_reducible refine (HAH.out _).mono ?_); rintro e w6 ⟨rfl, hb6⟩; (have R6 := (R5.alloc _).next hb6); (have l6 := R6.lt); (have c60 : w6.cell? ⟨w1.heap.size, 0, none⟩ = some (.bool nb) := R6.cell 0); (have c61 : w6.cell? ⟨w1.heap.size, 1, none⟩ = some (.string ⟨nd.toArray⟩) := R6.cell 1); (have c62 : w6.cell? ⟨w1.heap.size, 2, none⟩ = some (.int .i64 np) := R6.cell 2); (have c63 : w6.cell? ⟨w1.heap.size, 3, none⟩ = some (.int .i64 ni) := R6.cell 3); (have c64 : w6.cell? ⟨w1.heap.size, 4, none⟩ = some (.bool nn) := R6.cell 4)))
        go_ret
        exact ⟨rfl, hb1.trans (R6.below.mono hb1.size)⟩
      · rw [decide_eq_true (show c2 ≤ 0 by omega)]
        show Calls _ _ _ _ fun e w' => e = .returned (.bool true) ∧ _
        have g2' : c2 ≤ 0 := by omega
        clear g2
        go_enter Tryz.func67, Tryz.ntmps67
        go_wp2_with (first | (go_at_call 105; (with_reducible refine (HS.out _).mono ?_); rintro e w1 ⟨rfl, hb1⟩) | (go_at_call 105; (with_reducible refine (HH.out _).mono ?_); rintro e w5 ⟨rfl, hb5⟩; (have R5 := (Res1.start 55 #[.bool nb, .string ⟨nd.toArray⟩, .int .i64 np, .int .i64 ni, .bool nn] w1).next hb5); (have l5 := R5.lt); (have c50 : w5.cell? ⟨w1.heap.size, 0, none⟩ = some (.bool nb) := R5.cell 0); (have c51 : w5.cell? ⟨w1.heap.size, 1, none⟩ = some (.string ⟨nd.toArray⟩) := R5.cell 1); (have c52 : w5.cell? ⟨w1.heap.size, 2, none⟩ = some (.int .i64 np) := R5.cell 2); (have c53 : w5.cell? ⟨w1.heap.size, 3, none⟩ = some (.int .i64 ni) := R5.cell 3); (have c54 : w5.cell? ⟨w1.heap.size, 4, none⟩ = some (.bool nn) := R5.cell 4)) | (go_at_call 30; (with_reducible refine (HAH.out _).mono ?_); rintro e w6 ⟨rfl, hb6⟩; (have R6 := (R5.alloc _).next hb6); (have l6 := R6.lt); (have c60 : w6.cell? ⟨w1.heap.size, 0, none⟩ = some (.bool nb) := R6.cell 0); (have c61 : w6.cell? ⟨w1.heap.size, 1, none⟩ = some (.string ⟨nd.toArray⟩) := R6.cell 1); (have c62 : w6.cell? ⟨w1.heap.size, 2, none⟩ = some (.int .i64 np) := R6.cell 2); (have c63 : w6.cell? ⟨w1.heap.size, 3, none⟩ = some (.int .i64 ni) := R6.cell 3); (have c64 : w6.cell? ⟨w1.heap.size, 4, none⟩ = some (.bool nn) := R6.cell 4)))
        go_ret
        exact ⟨rfl, hb1.trans (R6.below.mono hb1.size)⟩
  | false =>
    by_cases g1 : c1 < 0
    · rw [decide_eq_false (show ¬ 0 ≤ c1 by omega)]
      show Calls _ _ _ _ fun e w' => e = .returned (.bool false) ∧ _
      go_enter Tryz.func67, Tryz.ntmps67
      go_wp2_with (first | (go_at_call 105; (with_reducible refine (HS.out _).mono ?_); rintro e w1 ⟨rfl, hb1⟩) | (go_at_call 105; (with_reducible refine (HL.out _).mono ?_); rintro e w3 ⟨rfl, hb3⟩; (have R3 := (Res1.start 55 #[.bool nb, .string ⟨nd.toArray⟩, .int .i64 np, .int .i64 ni, .bool nn] w1).next hb3); (have l3 := R3.lt); (have c30 : w3.cell? ⟨w1.heap.size, 0, none⟩ = some (.bool nb) := R3.cell 0); (have c31 : w3.cell? ⟨w1.heap.size, 1, none⟩ = some (.string ⟨nd.toArray⟩) := R3.cell 1); (have c32 : w3.cell? ⟨w1.heap.size, 2, none⟩ = some (.int .i64 np) := R3.cell 2); (have c33 : w3.cell? ⟨w1.heap.size, 3, none⟩ = some (.int .i64 ni) := R3.cell 3); (have c34 : w3.cell? ⟨w1.heap.size, 4, none⟩ = some (.bool nn) := R3.cell 4)) | (go_at_call 30; (with_reducible refine (HAL.out _).mono ?_); rintro e w4 ⟨rfl, hb4⟩; (have R4 := (R3.alloc _).next hb4); (have l4 := R4.lt); (have c40 : w4.cell? ⟨w1.heap.size, 0, none⟩ = some (.bool nb) := R4.cell 0); (have c41 : w4.cell? ⟨w1.heap.size, 1, none⟩ = some (.string ⟨nd.toArray⟩) := R4.cell 1); (have c42 : w4.cell? ⟨w1.heap.size, 2, none⟩ = some (.int .i64 np) := R4.cell 2); (have c43 : w4.cell? ⟨w1.heap.size, 3, none⟩ = some (.int .i64 ni) := R4.cell 3); (have c44 : w4.cell? ⟨w1.heap.size, 4, none⟩ = some (.bool nn) := R4.cell 4)))
      go_ret
      exact ⟨rfl, hb1.trans (R4.below.mono hb1.size)⟩
    · rw [decide_eq_true (show 0 ≤ c1 by omega)]
      have g1' : 0 ≤ c1 := by omega
      clear g1
      cases dh with
      | true =>
        show Calls _ _ _ _ fun e w' => e = .returned (.bool true) ∧ _
        go_enter Tryz.func67, Tryz.ntmps67
        go_wp2_with (first | (go_at_call 105; (with_reducible refine (HS.out _).mono ?_); rintro e w1 ⟨rfl, hb1⟩) | (go_at_call 105; (with_reducible refine (HL.out _).mono ?_); rintro e w3 ⟨rfl, hb3⟩; (have R3 := (Res1.start 55 #[.bool nb, .string ⟨nd.toArray⟩, .int .i64 np, .int .i64 ni, .bool nn] w1).next hb3); (have l3 := R3.lt); (have c30 : w3.cell? ⟨w1.heap.size, 0, none⟩ = some (.bool nb) := R3.cell 0); (have c31 : w3.cell? ⟨w1.heap.size, 1, none⟩ = some (.string ⟨nd.toArray⟩) := R3.cell 1); (have c32 : w3.cell? ⟨w1.heap.size, 2, none⟩ = some (.int .i64 np) := R3.cell 2); (have c33 : w3.cell? ⟨w1.heap.size, 3, none⟩ = some (.int .i64 ni) := R3.cell 3); (have c34 : w3.cell? ⟨w1.heap.size, 4, none⟩ = some (.bool nn) := R3.cell 4)) | (go_at_call 30; (with_reducible refine (HAL.out _).mono ?_); rintro e w4 ⟨rfl, hb4⟩; (have R4 := (R3.alloc _).next hb4); (have l4 := R4.lt); (have c40 : w4.cell? ⟨w1.heap.size, 0, none⟩ = some (.bool nb) := R4.cell 0); (have c41 : w4.cell? ⟨w1.heap.size, 1, none⟩ = some (.string ⟨nd.toArray⟩) := R4.cell 1); (have c42 : w4.cell? ⟨w1.heap.size, 2, none⟩ = some (.int .i64 np) := R4.cell 2); (have c43 : w4.cell? ⟨w1.heap.size, 3, none⟩ = some (.int .i64 ni) := R4.cell 3); (have c44 : w4.cell? ⟨w1.heap.size, 4, none⟩ = some (.bool nn) := R4.cell 4)))
        go_ret
        exact ⟨rfl, hb1.trans (R4.below.mono hb1.size)⟩
      | false =>
        by_cases g2 : 0 < c2
        · rw [decide_eq_false (show ¬ c2 ≤ 0 by omega)]
          show Calls _ _ _ _ fun e w' => e = .returned (.bool false) ∧ _
          go_enter Tryz.func67, Tryz.ntmps67
          go_wp2_with (first | (go_at_call 105; (with_reducible refine (HS.out _).mono ?_); rintro e w1 ⟨rfl, hb1⟩) | (go_at_call 105; (with_reducible refine (HL.out _).mono ?_); rintro e w3 ⟨rfl, hb3⟩; (have R3 := (Res1.start 55 #[.bool nb, .string ⟨nd.toArray⟩, .int .i64 np, .int .i64 ni, .bool nn] w1).next hb3); (have l3 := R3.lt); (have c30 : w3.cell? ⟨w1.heap.size, 0, none⟩ = some (.bool nb) := R3.cell 0); (have c31 : w3.cell? ⟨w1.heap.size, 1, none⟩ = some (.string ⟨nd.toArray⟩) := R3.cell 1); (have c32 : w3.cell? ⟨w1.heap.size, 2, none⟩ = some (.int .i64 np) := R3.cell 2); (have c33 : w3.cell? ⟨w1.heap.size, 3, none⟩ = some (.int .i64 ni) := R3.cell 3); (have c34 : w3.cell? ⟨w1.heap.size, 4, none⟩ = some (.bool nn) := R3.cell 4)) | (go_at_call 30; (with_reducible refine (HAL.out _).mono ?_); rintro e w4 ⟨rfl, hb4⟩; (have R4 := (R3.alloc _).next hb4); (have l4 := R4.lt); (have c40 : w4.cell? ⟨w1.heap.size, 0, none⟩ = some (.bool nb) := R4.cell 0); (have c41 : w4.cell? ⟨w1.heap.size, 1, none⟩ = some (.string ⟨nd.toArray⟩) := R4.cell 1); (have c42 : w4.cell? ⟨w1.heap.size, 2, none⟩ = some (.int .i64 np) := R4.cell 2); (have c43 : w4.cell? ⟨w1.heap.size, 3, none⟩ = some (.int .i64 ni) := R4.cell 3); (have c44 : w4.cell? ⟨w1.heap.size, 4, none⟩ = some (.bool nn) := R4.cell 4)) | (go_at_call 105; (with_reducible refine (HH.out _).mono ?_); rintro e w5 ⟨rfl, hb5⟩; (have R5 := (R4).next hb5); (have l5 := R5.lt); (have c50 : w5.cell? ⟨w1.heap.size, 0, none⟩ = some (.bool nb) := R5.cell 0); (have c51 : w5.cell? ⟨w1.heap.size, 1, none⟩ = some (.string ⟨nd.toArray⟩) := R5.cell 1); (have c52 : w5.cell? ⟨w1.heap.size, 2, none⟩ = some (.int .i64 np) := R5.cell 2); (have c53 : w5.cell? ⟨w1.heap.size, 3, none⟩ = some (.int .i64 ni) := R5.cell 3); (have c54 : w5.cell? ⟨w1.heap.size, 4, none⟩ = some (.bool nn) := R5.cell 4)) | (go_at_call 30; (with_reducible refine (HAH.out _).mono ?_); rintro e w6 ⟨rfl, hb6⟩; (have R6 := (R5.alloc _).next hb6); (have l6 := R6.lt); (have c60 : w6.cell? ⟨w1.heap.size, 0, none⟩ = some (.bool nb) := R6.cell 0); (have c61 : w6.cell? ⟨w1.heap.size, 1, none⟩ = some (.string ⟨nd.toArray⟩) := R6.cell 1); (have c62 : w6.cell? ⟨w1.heap.size, 2, none⟩ = some (.int .i64 np) := R6.cell 2); (have c63 : w6.cell? ⟨w1.heap.size, 3, none⟩ = some (.int .i64 ni) := R6.cell 3); (have c64 : w6.cell? ⟨w1.heap.size, 4, none⟩ = some (.bool nn) := R6.cell 4)))
          go_ret
          exact ⟨rfl, hb1.trans (R6.below.mono hb1.size)⟩
        · rw [decide_eq_true (show c2 ≤ 0 by omega)]
          show Calls _ _ _ _ fun e w' => e = .returned (.bool true) ∧ _
          have g2' : c2 ≤ 0 := by omega
          clear g2
          go_enter Tryz.func67, Tryz.ntmps67
          go_wp2_with (first | (go_at_call 105; (with_reducible refine (HS.out _).mono ?_); rintro e w1 ⟨rfl, hb1⟩) | (go_at_call 105; (with_reducible refine (HL.out _).mono ?_); rintro e w3 ⟨rfl, hb3⟩; (have R3 := (Res1.start 55 #[.bool nb, .string ⟨nd.toArray⟩, .int .i64 np, .int .i64 ni, .bool nn] w1).next hb3); (have l3 := R3.lt); (have c30 : w3.cell? ⟨w1.heap.size, 0, none⟩ = some (.bool nb) := R3.cell 0); (have c31 : w3.cell? ⟨w1.heap.size, 1, none⟩ = some (.string ⟨nd.toArray⟩) := R3.cell 1); (have c32 : w3.cell? ⟨w1.heap.size, 2, none⟩ = some (.int .i64 np) := R3.cell 2); (have c33 : w3.cell? ⟨w1.heap.size, 3, none⟩ = some (.int .i64 ni) := R3.cell 3); (have c34 : w3.cell? ⟨w1.heap.size, 4, none⟩ = some (.bool nn) := R3.cell 4)) | (go_at_call 30; (with_reducible refine (HAL.out _).mono ?_); rintro e w4 ⟨rfl, hb4⟩; (have R4 := (R3.alloc _).next hb4); (have l4 := R4.lt); (have c40 : w4.cell? ⟨w1.heap.size, 0, none⟩ = some (.bool nb) := R4.cell 0); (have c41 : w4.cell? ⟨w1.heap.size, 1, none⟩ = some (.string ⟨nd.toArray⟩) := R4.cell 1); (have c42 : w4.cell? ⟨w1.heap.size, 2, none⟩ = some (.int .i64 np) := R4.cell 2); (have c43 : w4.cell? ⟨w1.heap.size, 3, none⟩ = some (.int .i64 ni) := R4.cell 3); (have c44 : w4.cell? ⟨w1.heap.size, 4, none⟩ = some (.bool nn) := R4.cell 4)) | (go_at_call 105; (with_reducible refine (HH.out _).mono ?_); rintro e w5 ⟨rfl, hb5⟩; (have R5 := (R4).next hb5); (have l5 := R5.lt); (have c50 : w5.cell? ⟨w1.heap.size, 0, none⟩ = some (.bool nb) := R5.cell 0); (have c51 : w5.cell? ⟨w1.heap.size, 1, none⟩ = some (.string ⟨nd.toArray⟩) := R5.cell 1); (have c52 : w5.cell? ⟨w1.heap.size, 2, none⟩ = some (.int .i64 np) := R5.cell 2); (have c53 : w5.cell? ⟨w1.heap.size, 3, none⟩ = some (.int .i64 ni) := R5.cell 3); (have c54 : w5.cell? ⟨w1.heap.size, 4, none⟩ = some (.bool nn) := R5.cell 4)) | (go_at_call 30; (with_reducible refine (HAH.out _).mono ?_); rintro e w6 ⟨rfl, hb6⟩; (have R6 := (R5.alloc _).next hb6); (have l6 := R6.lt); (have c60 : w6.cell? ⟨w1.heap.size, 0, none⟩ = some (.bool nb) := R6.cell 0); (have c61 : w6.cell? ⟨w1.heap.size, 1, none⟩ = some (.string ⟨nd.toArray⟩) := R6.cell 1); (have c62 : w6.cell? ⟨w1.heap.size, 2, none⟩ = some (.int .i64 np) := R6.cell 2); (have c63 : w6.cell? ⟨w1.heap.size, 3, none⟩ = some (.int .i64 ni) := R6.cell 3); (have c64 : w6.cell? ⟨w1.heap.size, 4, none⟩ = some (.bool nn) := R6.cell 4)))
          go_ret
          exact ⟨rfl, hb1.trans (R6.below.mono hb1.size)⟩
end Go.Proofs.YtlhcejbimlilaaaGreatDoor
