/- VdT VaZ, laid as one. -/
import Derived.Test.YtlhcejbimlilaaaGreatDoorVaY
import Derived.Laws.Tables
import Derived.Laws.Rows
import Derived.Test.YtlhcejbimlilaaaGreatDoorVaV
import Derived.Test.YtlhcejbimlilaaaGreatDoorVaX
set_option linter.unusedVariables false
set_option linter.unusedSimpArgs false
/- The document's Read (written by gen_vdt.py). -/
namespace Go.Proofs.YtlhcejbimlilaaaGreatDoor
open Go.RowKit Go.Tk
theorem results_rt8 {P : Program} {fn : Func} {p q : Tmp} {ty : TypeId} (h : fn.results = #[.cell p ty, .tmp q]) (tmps : Array Value) (w : World) (g : Nat) (t : TypeId) (cs : Array Value) (fr : Nat × Nat) (d : TypeDesc)
    (hp : tmps.getD p undef = .pointer (some ⟨g, 0, none⟩)) (hg : w.heap[g]? = some (.cells cs t fr))
    (hu : P.underlying ty = some d) (hd : (match d with | .struct _ | .array _ _ => true | _ => false) = true) (hi : (P.info? ty).map (·.size) = some cs.size) :
    (results fn tmps).run P w = .ok (.tuple #[.agg cs, tmps.getD q undef]) w := by
  have hp' : tmps[p]?.getD undef = .pointer (some ⟨g, 0, none⟩) := by simpa using hp
  simp [results, h, hp', asAddr, run_loadVar_row w g t ty cs fr d hg hu hd hi]
def mo1 : Mo8 := ⟨1, 1, 1, 0, 0, 0, ⟨#[]⟩, false, 0⟩
def mo0 : Mo8 := ⟨0, 0, 0, 0, 0, 0, ⟨#[]⟩, false, 0⟩
def TiOk (l : List UInt8) (m : Mo8) (zt : List UInt8) : Prop := rdT l = some (m.h * 3600 + m.mi * 60 + m.s, m.f.data.toList, zt) ∧ 0 ≤ m.h ∧ m.h ≤ 24 ∧ 0 ≤ m.mi ∧ m.mi ≤ 59 ∧ 0 ≤ m.s ∧ m.s ≤ 59 ∧ (m.h = 24 → m.mi = 0 ∧ m.s = 0 ∧ m.f.data.toList = [])
def RkDT (l : List UInt8) (m : Mo8) : Prop := ∃ r zt, rdY l = some (m.y, m.mo, m.d, r) ∧ Lib.hasPrefix r [84] = true ∧ TiOk (r.drop 1) m zt ∧ rdZ zt = some (m.z, m.o)
def RkDay (l : List UInt8) (m : Mo8) : Prop := ∃ zt, rdY l = some (m.y, m.mo, m.d, zt) ∧ rdZ zt = some (m.z, m.o) ∧ m.h = 0 ∧ m.mi = 0 ∧ m.s = 0 ∧ m.f = ⟨#[]⟩
def RkClk (l : List UInt8) (m : Mo8) : Prop := ∃ zt, TiOk l m zt ∧ rdZ zt = some (m.z, m.o) ∧ m.y = 1 ∧ m.mo = 1 ∧ m.d = 1
def RePost (ok : Bool) (P : Mo8 → Prop) (w : World) (e : Ending) (w' : World) : Prop := ∃ m : Mo8, e = .returned (.tuple #[.agg m.cells, .bool ok]) ∧ Below w.heap.size w w' ∧ (ok = true → P m)
theorem in_some (sec : Int) (p z : List UInt8) : (inP sec p z).isSome = (rdZ z).isSome := by unfold inP; cases rdZ z <;> rfl
theorem dt_none {l : List UInt8} (h : rdY l = none) : rdDT l = none ∧ rdDay l = none := by
  have : rdD l = none := by unfold rdD; rw [h]; rfl
  unfold rdDT rdDay; rw [this]; exact ⟨rfl, rfl⟩
theorem dt_some {l r : List UInt8} {y m d : Int} (h : rdY l = some (y, m, d, r)) : rdD l = some (dyP y m d, r) := by unfold rdD; rw [h]; rfl
theorem dt_pre {l r : List UInt8} {y m d : Int} (h : rdY l = some (y, m, d, r)) (hp : Lib.hasPrefix r [84] = false) : rdDT l = none := by
  unfold rdDT; rw [dt_some h]; dsimp only; rw [if_neg (by rw [hp]; simp)]
theorem dt_tim {l r : List UInt8} {y m d : Int} (h : rdY l = some (y, m, d, r)) (hp : Lib.hasPrefix r [84] = true) (ht : rdT (r.drop 1) = none) : rdDT l = none := by
  unfold rdDT; rw [dt_some h]; dsimp only; rw [if_pos hp, ht]
theorem dt_zon {l r p z : List UInt8} {y m d c : Int} (h : rdY l = some (y, m, d, r)) (hp : Lib.hasPrefix r [84] = true) (ht : rdT (r.drop 1) = some (c, p, z)) : (rdDT l).isSome = (rdZ z).isSome := by
  unfold rdDT; rw [dt_some h]; dsimp only; rw [if_pos hp, ht]; exact in_some _ _ _
theorem day_zon {l r : List UInt8} {y m d : Int} (h : rdY l = some (y, m, d, r)) : (rdDay l).isSome = (rdZ r).isSome := by
  unfold rdDay; rw [dt_some h]; exact in_some _ _ _
theorem clk_zon {l p z : List UInt8} {c : Int} (h : rdT l = some (c, p, z)) : (rdClk l).isSome = (rdZ z).isSome := by
  unfold rdClk; rw [h]; exact in_some _ _ _
theorem clk_none {l : List UInt8} (h : rdT l = none) : rdClk l = none := by unfold rdClk; rw [h]
set_option maxRecDepth 100000 in
set_option maxHeartbeats 4000000 in
theorem re_d6 (w : World) (s : ByteArray) (Q : Mo8 → Prop) (hd : ∀ x, MoAt x (w.heap.size + 1) mo1 → Calls Tryz.prog 90 #[.pointer (some ⟨w.heap.size + 1, 0, none⟩), .string s] x fun e x' => ∃ (R : ByteArray) (y mo d : Int), e = .returned (.tuple #[.string R, .bool false]) ∧ MoAt x' (w.heap.size + 1) { mo1 with y := y, mo := mo, d := d } ∧ Below (w.heap.size + 1) x x' ∧ True) :
    Calls Tryz.prog 44 #[.string s, .int .i64 6] w (RePost false Q w) := by
  have HD := Lib.hid hd
  clear hd
  have hbd : Below w.heap.size w w := Below.refl _ _
  go_enter Tryz.func44, Tryz.ntmps44
  go_upto_region 2 with fail
  obtain ⟨r0, r1, hb⟩ := box2 w (.cells mo0.cells 69) (.cells mo1.cells 69)
  simp only [mo0, mo1, Mo8.cells] at r0 r1 hb
  generalize World.alloc (World.alloc w _) _ = w0 at r0 r1 hb ⊢
  have r0' : MoAt w0 w.heap.size mo0 := r0
  have r1' : MoAt w0 (w.heap.size + 1) mo1 := r1
  have R0 := Lib.hid r0'
  have R := Lib.hid r1'
  have B := Lib.hid hb
  clear r0 r1 hb hbd r0' r1'
  go_upto_region 5 with (go_at_call 90; (with_reducible refine (HD.out _ R.out).mono ?_); rintro e' wx ⟨R1, y, mo, d, rfl, Rx, Bx, hx⟩)
  have Rb : MoAt wx w.heap.size mo0 := (Bx.block _ (Nat.lt_succ_self _)).trans R0.out
  have Bb : Below w.heap.size w wx := B.out.trans (Bx.mono (Nat.le_succ _))
  replace R0 := Lib.hid Rb
  replace B := Lib.hid Bb
  replace R := Lib.hid Rx
  clear Rb Bb Rx Bx
  clear hx
  obtain ⟨mm, hmm⟩ : ∃ mm : Mo8, mm = { mo1 with y := y, mo := mo, d := d } := ⟨_, rfl⟩
  have rb : wx.heap[w.heap.size + 1]? = some (.cells mm.cells 69 (0, 0)) := by rw [hmm]; exact R.out
  have ra : wx.heap[w.heap.size]? = some (.cells mo0.cells 69 (0, 0)) := R0.out
  have hi9 : (Tryz.prog.info? 69).map (·.size) = some mm.cells.size := by kernel_rfl
  have one : mm.cells.all (·.oneCell') = true := by simp [Mo8.cells, Value.oneCell']
  have HM := Lib.hid hmm
  have RA := Lib.hid ra
  have RB := Lib.hid rb
  have HI := Lib.hid hi9
  have ONE := Lib.hid one
  clear hmm ra rb hi9 one R R0
  go_wp2_with (first | (refine wpList_load_row rfl 69 _ rfl (w.heap.size + 1) rfl _ mm.cells _ _ RB.out Tryz.underlying69 rfl HI.out ?_) | (refine wpList_store_row rfl 69 _ _ rfl w.heap.size mm.cells rfl rfl _ _ RA.out HI.out rfl ONE.out ?_))
  have rn := setRow_heap wx w.heap.size mo0.cells mm.cells _ _ RA.out
  have hB := B.out
  refine bodyPost_ret (results_rt8 rfl _ _ w.heap.size _ _ _ _ rfl rn Tryz.underlying69 rfl HI.out) rfl ⟨mm, rfl, ⟨hB.os, hB.tape, hB.output, by simpa using hB.size, fun k hk => (setRow_other _ _ k _ (by omega)).trans (hB.block k hk)⟩, (fun h => by cases h)⟩
set_option maxRecDepth 100000 in
set_option maxHeartbeats 4000000 in
theorem re_d7 (w : World) (s : ByteArray) (Q : Mo8 → Prop) (hd : ∀ x, MoAt x (w.heap.size + 1) mo1 → Calls Tryz.prog 90 #[.pointer (some ⟨w.heap.size + 1, 0, none⟩), .string s] x fun e x' => ∃ (R : ByteArray) (y mo d : Int), e = .returned (.tuple #[.string R, .bool false]) ∧ MoAt x' (w.heap.size + 1) { mo1 with y := y, mo := mo, d := d } ∧ Below (w.heap.size + 1) x x' ∧ True) :
    Calls Tryz.prog 44 #[.string s, .int .i64 7] w (RePost false Q w) := by
  have HD := Lib.hid hd
  clear hd
  have hbd : Below w.heap.size w w := Below.refl _ _
  go_enter Tryz.func44, Tryz.ntmps44
  go_upto_region 2 with fail
  obtain ⟨r0, r1, hb⟩ := box2 w (.cells mo0.cells 69) (.cells mo1.cells 69)
  simp only [mo0, mo1, Mo8.cells] at r0 r1 hb
  generalize World.alloc (World.alloc w _) _ = w0 at r0 r1 hb ⊢
  have r0' : MoAt w0 w.heap.size mo0 := r0
  have r1' : MoAt w0 (w.heap.size + 1) mo1 := r1
  have R0 := Lib.hid r0'
  have R := Lib.hid r1'
  have B := Lib.hid hb
  clear r0 r1 hb hbd r0' r1'
  go_upto_region 5 with (go_at_call 90; (with_reducible refine (HD.out _ R.out).mono ?_); rintro e' wx ⟨R1, y, mo, d, rfl, Rx, Bx, hx⟩)
  have Rb : MoAt wx w.heap.size mo0 := (Bx.block _ (Nat.lt_succ_self _)).trans R0.out
  have Bb : Below w.heap.size w wx := B.out.trans (Bx.mono (Nat.le_succ _))
  replace R0 := Lib.hid Rb
  replace B := Lib.hid Bb
  replace R := Lib.hid Rx
  clear Rb Bb Rx Bx
  clear hx
  obtain ⟨mm, hmm⟩ : ∃ mm : Mo8, mm = { mo1 with y := y, mo := mo, d := d } := ⟨_, rfl⟩
  have rb : wx.heap[w.heap.size + 1]? = some (.cells mm.cells 69 (0, 0)) := by rw [hmm]; exact R.out
  have ra : wx.heap[w.heap.size]? = some (.cells mo0.cells 69 (0, 0)) := R0.out
  have hi9 : (Tryz.prog.info? 69).map (·.size) = some mm.cells.size := by kernel_rfl
  have one : mm.cells.all (·.oneCell') = true := by simp [Mo8.cells, Value.oneCell']
  have HM := Lib.hid hmm
  have RA := Lib.hid ra
  have RB := Lib.hid rb
  have HI := Lib.hid hi9
  have ONE := Lib.hid one
  clear hmm ra rb hi9 one R R0
  go_wp2_with (first | (refine wpList_load_row rfl 69 _ rfl (w.heap.size + 1) rfl _ mm.cells _ _ RB.out Tryz.underlying69 rfl HI.out ?_) | (refine wpList_store_row rfl 69 _ _ rfl w.heap.size mm.cells rfl rfl _ _ RA.out HI.out rfl ONE.out ?_))
  have rn := setRow_heap wx w.heap.size mo0.cells mm.cells _ _ RA.out
  have hB := B.out
  refine bodyPost_ret (results_rt8 rfl _ _ w.heap.size _ _ _ _ rfl rn Tryz.underlying69 rfl HI.out) rfl ⟨mm, rfl, ⟨hB.os, hB.tape, hB.output, by simpa using hB.size, fun k hk => (setRow_other _ _ k _ (by omega)).trans (hB.block k hk)⟩, (fun h => by cases h)⟩
set_option maxRecDepth 100000 in
set_option maxHeartbeats 4000000 in
theorem re_t0 (w : World) (s : ByteArray) (Q : Mo8 → Prop) (R1 : ByteArray) (Y1 M1 D1 : Int) (hd : ∀ x, MoAt x (w.heap.size + 1) mo1 → Calls Tryz.prog 90 #[.pointer (some ⟨w.heap.size + 1, 0, none⟩), .string s] x fun e x' => ∃ (R : ByteArray) (y mo d : Int), e = .returned (.tuple #[.string R, .bool true]) ∧ MoAt x' (w.heap.size + 1) { mo1 with y := y, mo := mo, d := d } ∧ Below (w.heap.size + 1) x x' ∧ (R = R1 ∧ y = Y1 ∧ mo = M1 ∧ d = D1)) (te : (R1.toList == []) = true) :
    Calls Tryz.prog 44 #[.string s, .int .i64 6] w (RePost false Q w) := by
  have HD := Lib.hid hd
  clear hd
  have hbd : Below w.heap.size w w := Below.refl _ _
  go_enter Tryz.func44, Tryz.ntmps44
  go_upto_region 2 with fail
  obtain ⟨r0, r1, hb⟩ := box2 w (.cells mo0.cells 69) (.cells mo1.cells 69)
  simp only [mo0, mo1, Mo8.cells] at r0 r1 hb
  generalize World.alloc (World.alloc w _) _ = w0 at r0 r1 hb ⊢
  have r0' : MoAt w0 w.heap.size mo0 := r0
  have r1' : MoAt w0 (w.heap.size + 1) mo1 := r1
  have R0 := Lib.hid r0'
  have R := Lib.hid r1'
  have B := Lib.hid hb
  clear r0 r1 hb hbd r0' r1'
  go_upto_region 5 with (go_at_call 90; (with_reducible refine (HD.out _ R.out).mono ?_); rintro e' wx ⟨R1x, y, mo, d, rfl, Rx, Bx, hx⟩)
  obtain ⟨rfl, rfl, rfl, rfl⟩ := hx
  have Rb : MoAt wx w.heap.size mo0 := (Bx.block _ (Nat.lt_succ_self _)).trans R0.out
  have Bb : Below w.heap.size w wx := B.out.trans (Bx.mono (Nat.le_succ _))
  replace R0 := Lib.hid Rb
  replace B := Lib.hid Bb
  replace R := Lib.hid Rx
  clear Rb Bb Rx Bx
  obtain ⟨mm, hmm⟩ : ∃ mm : Mo8, mm = { mo1 with y := y, mo := mo, d := d } := ⟨_, rfl⟩
  have rb : wx.heap[w.heap.size + 1]? = some (.cells mm.cells 69 (0, 0)) := by rw [hmm]; exact R.out
  have ra : wx.heap[w.heap.size]? = some (.cells mo0.cells 69 (0, 0)) := R0.out
  have hi9 : (Tryz.prog.info? 69).map (·.size) = some mm.cells.size := by kernel_rfl
  have one : mm.cells.all (·.oneCell') = true := by simp [Mo8.cells, Value.oneCell']
  have HM := Lib.hid hmm
  have RA := Lib.hid ra
  have RB := Lib.hid rb
  have HI := Lib.hid hi9
  have ONE := Lib.hid one
  clear hmm ra rb hi9 one R R0
  go_wp2_with (first | (refine wpList_load_row rfl 69 _ rfl (w.heap.size + 1) rfl _ mm.cells _ _ RB.out Tryz.underlying69 rfl HI.out ?_) | (refine wpList_store_row rfl 69 _ _ rfl w.heap.size mm.cells rfl rfl _ _ RA.out HI.out rfl ONE.out ?_))
  have rn := setRow_heap wx w.heap.size mo0.cells mm.cells _ _ RA.out
  have hB := B.out
  refine bodyPost_ret (results_rt8 rfl _ _ w.heap.size _ _ _ _ rfl rn Tryz.underlying69 rfl HI.out) rfl ⟨mm, rfl, ⟨hB.os, hB.tape, hB.output, by simpa using hB.size, fun k hk => (setRow_other _ _ k _ (by omega)).trans (hB.block k hk)⟩, (fun h => by cases h)⟩
set_option maxRecDepth 100000 in
set_option maxHeartbeats 4000000 in
theorem re_t1 (w : World) (s : ByteArray) (Q : Mo8 → Prop) (R1 : ByteArray) (Y1 M1 D1 : Int) (hd : ∀ x, MoAt x (w.heap.size + 1) mo1 → Calls Tryz.prog 90 #[.pointer (some ⟨w.heap.size + 1, 0, none⟩), .string s] x fun e x' => ∃ (R : ByteArray) (y mo d : Int), e = .returned (.tuple #[.string R, .bool true]) ∧ MoAt x' (w.heap.size + 1) { mo1 with y := y, mo := mo, d := d } ∧ Below (w.heap.size + 1) x x' ∧ (R = R1 ∧ y = Y1 ∧ mo = M1 ∧ d = D1)) (te : (R1.toList == []) = false) (k0 : 0 < R1.size) (z0 : (((R1[0]).toNat : Nat) : Int) ≠ 84) :
    Calls Tryz.prog 44 #[.string s, .int .i64 6] w (RePost false Q w) := by
  have z0b : ((((R1[0]).toNat : Nat) : Int) == 84) = false := beq_false_of_ne z0
  clear z0
  have HD := Lib.hid hd
  clear hd
  have hbd : Below w.heap.size w w := Below.refl _ _
  go_enter Tryz.func44, Tryz.ntmps44
  go_upto_region 2 with fail
  obtain ⟨r0, r1, hb⟩ := box2 w (.cells mo0.cells 69) (.cells mo1.cells 69)
  simp only [mo0, mo1, Mo8.cells] at r0 r1 hb
  generalize World.alloc (World.alloc w _) _ = w0 at r0 r1 hb ⊢
  have r0' : MoAt w0 w.heap.size mo0 := r0
  have r1' : MoAt w0 (w.heap.size + 1) mo1 := r1
  have R0 := Lib.hid r0'
  have R := Lib.hid r1'
  have B := Lib.hid hb
  clear r0 r1 hb hbd r0' r1'
  go_upto_region 5 with (go_at_call 90; (with_reducible refine (HD.out _ R.out).mono ?_); rintro e' wx ⟨R1x, y, mo, d, rfl, Rx, Bx, hx⟩)
  obtain ⟨rfl, rfl, rfl, rfl⟩ := hx
  have Rb : MoAt wx w.heap.size mo0 := (Bx.block _ (Nat.lt_succ_self _)).trans R0.out
  have Bb : Below w.heap.size w wx := B.out.trans (Bx.mono (Nat.le_succ _))
  replace R0 := Lib.hid Rb
  replace B := Lib.hid Bb
  replace R := Lib.hid Rx
  clear Rb Bb Rx Bx
  obtain ⟨mm, hmm⟩ : ∃ mm : Mo8, mm = { mo1 with y := y, mo := mo, d := d } := ⟨_, rfl⟩
  have rb : wx.heap[w.heap.size + 1]? = some (.cells mm.cells 69 (0, 0)) := by rw [hmm]; exact R.out
  have ra : wx.heap[w.heap.size]? = some (.cells mo0.cells 69 (0, 0)) := R0.out
  have hi9 : (Tryz.prog.info? 69).map (·.size) = some mm.cells.size := by kernel_rfl
  have one : mm.cells.all (·.oneCell') = true := by simp [Mo8.cells, Value.oneCell']
  have HM := Lib.hid hmm
  have RA := Lib.hid ra
  have RB := Lib.hid rb
  have HI := Lib.hid hi9
  have ONE := Lib.hid one
  clear hmm ra rb hi9 one R R0
  go_wp2_with (first | (refine wpList_load_row rfl 69 _ rfl (w.heap.size + 1) rfl _ mm.cells _ _ RB.out Tryz.underlying69 rfl HI.out ?_) | (refine wpList_store_row rfl 69 _ _ rfl w.heap.size mm.cells rfl rfl _ _ RA.out HI.out rfl ONE.out ?_))
  have rn := setRow_heap wx w.heap.size mo0.cells mm.cells _ _ RA.out
  have hB := B.out
  refine bodyPost_ret (results_rt8 rfl _ _ w.heap.size _ _ _ _ rfl rn Tryz.underlying69 rfl HI.out) rfl ⟨mm, rfl, ⟨hB.os, hB.tape, hB.output, by simpa using hB.size, fun k hk => (setRow_other _ _ k _ (by omega)).trans (hB.block k hk)⟩, (fun h => by cases h)⟩
set_option maxRecDepth 100000 in
set_option maxHeartbeats 4000000 in
theorem re_i6 (w : World) (s : ByteArray) (Q : Mo8 → Prop) (R1 : ByteArray) (Y1 M1 D1 : Int) (hd : ∀ x, MoAt x (w.heap.size + 1) mo1 → Calls Tryz.prog 90 #[.pointer (some ⟨w.heap.size + 1, 0, none⟩), .string s] x fun e x' => ∃ (R : ByteArray) (y mo d : Int), e = .returned (.tuple #[.string R, .bool true]) ∧ MoAt x' (w.heap.size + 1) { mo1 with y := y, mo := mo, d := d } ∧ Below (w.heap.size + 1) x x' ∧ (R = R1 ∧ y = Y1 ∧ mo = M1 ∧ d = D1)) (te : (R1.toList == []) = false) (k0 : 0 < R1.size) (z0 : (((R1[0]).toNat : Nat) : Int) = 84) (S2 : ByteArray) (hS2 : R1.extract 1 R1.size = S2) (ht : ∀ x, MoAt x (w.heap.size + 1) ({ mo1 with y := Y1, mo := M1, d := D1 } : Mo8) → Calls Tryz.prog 91 #[.pointer (some ⟨w.heap.size + 1, 0, none⟩), .string S2] x fun e x' => ∃ (R f : ByteArray) (h mi sc : Int), e = .returned (.tuple #[.string R, .bool false]) ∧ MoAt x' (w.heap.size + 1) { ({ mo1 with y := Y1, mo := M1, d := D1 } : Mo8) with h := h, mi := mi, s := sc, f := f } ∧ Below (w.heap.size + 1) x x' ∧ True) :
    Calls Tryz.prog 44 #[.string s, .int .i64 6] w (RePost false Q w) := by
  have HD := Lib.hid hd
  have HT := Lib.hid ht
  clear hd ht
  have hbd : Below w.heap.size w w := Below.refl _ _
  go_enter Tryz.func44, Tryz.ntmps44
  go_upto_region 2 with fail
  obtain ⟨r0, r1, hb⟩ := box2 w (.cells mo0.cells 69) (.cells mo1.cells 69)
  simp only [mo0, mo1, Mo8.cells] at r0 r1 hb
  generalize World.alloc (World.alloc w _) _ = w0 at r0 r1 hb ⊢
  have r0' : MoAt w0 w.heap.size mo0 := r0
  have r1' : MoAt w0 (w.heap.size + 1) mo1 := r1
  have R0 := Lib.hid r0'
  have R := Lib.hid r1'
  have B := Lib.hid hb
  clear r0 r1 hb hbd r0' r1'
  go_upto_region 5 with (go_at_call 90; (with_reducible refine (HD.out _ R.out).mono ?_); rintro e' wx ⟨R1x, y, mo, d, rfl, Rx, Bx, hx⟩)
  obtain ⟨rfl, rfl, rfl, rfl⟩ := hx
  have Rb : MoAt wx w.heap.size mo0 := (Bx.block _ (Nat.lt_succ_self _)).trans R0.out
  have Bb : Below w.heap.size w wx := B.out.trans (Bx.mono (Nat.le_succ _))
  replace R0 := Lib.hid Rb
  replace B := Lib.hid Bb
  replace R := Lib.hid Rx
  clear Rb Bb Rx Bx
  go_upto_region 11 with (go_at_call 91; (with_reducible refine (HT.out _ R.out).mono ?_); rintro e' wx ⟨R3, f, h, mi, sc, rfl, Rx, Bx, hx⟩)
  have Rb : MoAt wx w.heap.size mo0 := (Bx.block _ (Nat.lt_succ_self _)).trans R0.out
  have Bb : Below w.heap.size w wx := B.out.trans (Bx.mono (Nat.le_succ _))
  replace R0 := Lib.hid Rb
  replace B := Lib.hid Bb
  replace R := Lib.hid Rx
  clear Rb Bb Rx Bx
  clear hx
  obtain ⟨mm, hmm⟩ : ∃ mm : Mo8, mm = { mo1 with y := y, mo := mo, d := d, h := h, mi := mi, s := sc, f := f } := ⟨_, rfl⟩
  have rb : wx.heap[w.heap.size + 1]? = some (.cells mm.cells 69 (0, 0)) := by rw [hmm]; exact R.out
  have ra : wx.heap[w.heap.size]? = some (.cells mo0.cells 69 (0, 0)) := R0.out
  have hi9 : (Tryz.prog.info? 69).map (·.size) = some mm.cells.size := by kernel_rfl
  have one : mm.cells.all (·.oneCell') = true := by simp [Mo8.cells, Value.oneCell']
  have HM := Lib.hid hmm
  have RA := Lib.hid ra
  have RB := Lib.hid rb
  have HI := Lib.hid hi9
  have ONE := Lib.hid one
  clear hmm ra rb hi9 one R R0
  go_wp2_with (first | (refine wpList_load_row rfl 69 _ rfl (w.heap.size + 1) rfl _ mm.cells _ _ RB.out Tryz.underlying69 rfl HI.out ?_) | (refine wpList_store_row rfl 69 _ _ rfl w.heap.size mm.cells rfl rfl _ _ RA.out HI.out rfl ONE.out ?_))
  have rn := setRow_heap wx w.heap.size mo0.cells mm.cells _ _ RA.out
  have hB := B.out
  refine bodyPost_ret (results_rt8 rfl _ _ w.heap.size _ _ _ _ rfl rn Tryz.underlying69 rfl HI.out) rfl ⟨mm, rfl, ⟨hB.os, hB.tape, hB.output, by simpa using hB.size, fun k hk => (setRow_other _ _ k _ (by omega)).trans (hB.block k hk)⟩, (fun h => by cases h)⟩
set_option maxRecDepth 100000 in
set_option maxHeartbeats 4000000 in
theorem re_z6 (w : World) (s : ByteArray) (P Q : Mo8 → Prop) (ok : Bool) (R1 : ByteArray) (Y1 M1 D1 : Int) (hd : ∀ x, MoAt x (w.heap.size + 1) mo1 → Calls Tryz.prog 90 #[.pointer (some ⟨w.heap.size + 1, 0, none⟩), .string s] x fun e x' => ∃ (R : ByteArray) (y mo d : Int), e = .returned (.tuple #[.string R, .bool true]) ∧ MoAt x' (w.heap.size + 1) { mo1 with y := y, mo := mo, d := d } ∧ Below (w.heap.size + 1) x x' ∧ (R = R1 ∧ y = Y1 ∧ mo = M1 ∧ d = D1)) (te : (R1.toList == []) = false) (k0 : 0 < R1.size) (z0 : (((R1[0]).toNat : Nat) : Int) = 84) (S2 : ByteArray) (hS2 : R1.extract 1 R1.size = S2) (Z1 : ByteArray) (ht : ∀ x, MoAt x (w.heap.size + 1) ({ mo1 with y := Y1, mo := M1, d := D1 } : Mo8) → Calls Tryz.prog 91 #[.pointer (some ⟨w.heap.size + 1, 0, none⟩), .string S2] x fun e x' => ∃ (R f : ByteArray) (h mi sc : Int), e = .returned (.tuple #[.string R, .bool true]) ∧ MoAt x' (w.heap.size + 1) { ({ mo1 with y := Y1, mo := M1, d := D1 } : Mo8) with h := h, mi := mi, s := sc, f := f } ∧ Below (w.heap.size + 1) x x' ∧ (R = Z1 ∧ P { ({ mo1 with y := Y1, mo := M1, d := D1 } : Mo8) with h := h, mi := mi, s := sc, f := f })) (hz : ∀ x, ∀ m : Mo8, P m ∧ m.z = false ∧ m.o = 0 → MoAt x (w.heap.size + 1) m → Calls Tryz.prog 92 #[.pointer (some ⟨w.heap.size + 1, 0, none⟩), .string Z1] x fun e x' => ∃ (z : Bool) (o : Int), e = .returned (.bool ok) ∧ MoAt x' (w.heap.size + 1) { m with z := z, o := o } ∧ Below (w.heap.size + 1) x x' ∧ (ok = true → Q { m with z := z, o := o })) :
    Calls Tryz.prog 44 #[.string s, .int .i64 6] w (RePost ok Q w) := by
  have HD := Lib.hid hd
  have HT := Lib.hid ht
  have HZ := Lib.hid hz
  clear hd ht hz
  have hbd : Below w.heap.size w w := Below.refl _ _
  go_enter Tryz.func44, Tryz.ntmps44
  go_upto_region 2 with fail
  obtain ⟨r0, r1, hb⟩ := box2 w (.cells mo0.cells 69) (.cells mo1.cells 69)
  simp only [mo0, mo1, Mo8.cells] at r0 r1 hb
  generalize World.alloc (World.alloc w _) _ = w0 at r0 r1 hb ⊢
  have r0' : MoAt w0 w.heap.size mo0 := r0
  have r1' : MoAt w0 (w.heap.size + 1) mo1 := r1
  have R0 := Lib.hid r0'
  have R := Lib.hid r1'
  have B := Lib.hid hb
  clear r0 r1 hb hbd r0' r1'
  go_upto_region 5 with (go_at_call 90; (with_reducible refine (HD.out _ R.out).mono ?_); rintro e' wx ⟨R1x, y, mo, d, rfl, Rx, Bx, hx⟩)
  obtain ⟨rfl, rfl, rfl, rfl⟩ := hx
  have Rb : MoAt wx w.heap.size mo0 := (Bx.block _ (Nat.lt_succ_self _)).trans R0.out
  have Bb : Below w.heap.size w wx := B.out.trans (Bx.mono (Nat.le_succ _))
  replace R0 := Lib.hid Rb
  replace B := Lib.hid Bb
  replace R := Lib.hid Rx
  clear Rb Bb Rx Bx
  go_upto_region 11 with (go_at_call 91; (with_reducible refine (HT.out _ R.out).mono ?_); rintro e' wx ⟨R3, f, h, mi, sc, rfl, Rx, Bx, hx⟩)
  obtain ⟨rfl, hP⟩ := hx
  have Rb : MoAt wx w.heap.size mo0 := (Bx.block _ (Nat.lt_succ_self _)).trans R0.out
  have Bb : Below w.heap.size w wx := B.out.trans (Bx.mono (Nat.le_succ _))
  replace R0 := Lib.hid Rb
  replace B := Lib.hid Bb
  replace R := Lib.hid Rx
  clear Rb Bb Rx Bx
  go_upto_region 13 with (go_at_call 92; (with_reducible refine (HZ.out _ _ ⟨hP, rfl, rfl⟩ R.out).mono ?_); rintro e' wx ⟨z, o, rfl, Rx, Bx, hx⟩)
  have Rb : MoAt wx w.heap.size mo0 := (Bx.block _ (Nat.lt_succ_self _)).trans R0.out
  have Bb : Below w.heap.size w wx := B.out.trans (Bx.mono (Nat.le_succ _))
  replace R0 := Lib.hid Rb
  replace B := Lib.hid Bb
  replace R := Lib.hid Rx
  clear Rb Bb Rx Bx
  have HX := Lib.hid hx
  clear hx hP
  obtain ⟨mm, hmm⟩ : ∃ mm : Mo8, mm = { mo1 with y := y, mo := mo, d := d, h := h, mi := mi, s := sc, f := f, z := z, o := o } := ⟨_, rfl⟩
  have rb : wx.heap[w.heap.size + 1]? = some (.cells mm.cells 69 (0, 0)) := by rw [hmm]; exact R.out
  have ra : wx.heap[w.heap.size]? = some (.cells mo0.cells 69 (0, 0)) := R0.out
  have hi9 : (Tryz.prog.info? 69).map (·.size) = some mm.cells.size := by kernel_rfl
  have one : mm.cells.all (·.oneCell') = true := by simp [Mo8.cells, Value.oneCell']
  have HM := Lib.hid hmm
  have RA := Lib.hid ra
  have RB := Lib.hid rb
  have HI := Lib.hid hi9
  have ONE := Lib.hid one
  clear hmm ra rb hi9 one R R0
  go_wp2_with (first | (refine wpList_load_row rfl 69 _ rfl (w.heap.size + 1) rfl _ mm.cells _ _ RB.out Tryz.underlying69 rfl HI.out ?_) | (refine wpList_store_row rfl 69 _ _ rfl w.heap.size mm.cells rfl rfl _ _ RA.out HI.out rfl ONE.out ?_))
  have rn := setRow_heap wx w.heap.size mo0.cells mm.cells _ _ RA.out
  have hB := B.out
  refine bodyPost_ret (results_rt8 rfl _ _ w.heap.size _ _ _ _ rfl rn Tryz.underlying69 rfl HI.out) rfl ⟨mm, rfl, ⟨hB.os, hB.tape, hB.output, by simpa using hB.size, fun k hk => (setRow_other _ _ k _ (by omega)).trans (hB.block k hk)⟩, by rw [HM.out]; exact HX.out⟩
set_option maxRecDepth 100000 in
set_option maxHeartbeats 4000000 in
theorem re_z7 (w : World) (s : ByteArray) (Q : Mo8 → Prop) (ok : Bool) (R1 : ByteArray) (Y1 M1 D1 : Int) (hd : ∀ x, MoAt x (w.heap.size + 1) mo1 → Calls Tryz.prog 90 #[.pointer (some ⟨w.heap.size + 1, 0, none⟩), .string s] x fun e x' => ∃ (R : ByteArray) (y mo d : Int), e = .returned (.tuple #[.string R, .bool true]) ∧ MoAt x' (w.heap.size + 1) { mo1 with y := y, mo := mo, d := d } ∧ Below (w.heap.size + 1) x x' ∧ (R = R1 ∧ y = Y1 ∧ mo = M1 ∧ d = D1)) (hz : ∀ x, ∀ m : Mo8, m = ({ mo1 with y := Y1, mo := M1, d := D1 } : Mo8) → MoAt x (w.heap.size + 1) m → Calls Tryz.prog 92 #[.pointer (some ⟨w.heap.size + 1, 0, none⟩), .string R1] x fun e x' => ∃ (z : Bool) (o : Int), e = .returned (.bool ok) ∧ MoAt x' (w.heap.size + 1) { m with z := z, o := o } ∧ Below (w.heap.size + 1) x x' ∧ (ok = true → Q { m with z := z, o := o })) :
    Calls Tryz.prog 44 #[.string s, .int .i64 7] w (RePost ok Q w) := by
  have HD := Lib.hid hd
  have HZ := Lib.hid hz
  clear hd hz
  have hbd : Below w.heap.size w w := Below.refl _ _
  go_enter Tryz.func44, Tryz.ntmps44
  go_upto_region 2 with fail
  obtain ⟨r0, r1, hb⟩ := box2 w (.cells mo0.cells 69) (.cells mo1.cells 69)
  simp only [mo0, mo1, Mo8.cells] at r0 r1 hb
  generalize World.alloc (World.alloc w _) _ = w0 at r0 r1 hb ⊢
  have r0' : MoAt w0 w.heap.size mo0 := r0
  have r1' : MoAt w0 (w.heap.size + 1) mo1 := r1
  have R0 := Lib.hid r0'
  have R := Lib.hid r1'
  have B := Lib.hid hb
  clear r0 r1 hb hbd r0' r1'
  go_upto_region 5 with (go_at_call 90; (with_reducible refine (HD.out _ R.out).mono ?_); rintro e' wx ⟨R1x, y, mo, d, rfl, Rx, Bx, hx⟩)
  obtain ⟨rfl, rfl, rfl, rfl⟩ := hx
  have Rb : MoAt wx w.heap.size mo0 := (Bx.block _ (Nat.lt_succ_self _)).trans R0.out
  have Bb : Below w.heap.size w wx := B.out.trans (Bx.mono (Nat.le_succ _))
  replace R0 := Lib.hid Rb
  replace B := Lib.hid Bb
  replace R := Lib.hid Rx
  clear Rb Bb Rx Bx
  go_upto_region 13 with (go_at_call 92; (with_reducible refine (HZ.out _ _ rfl R.out).mono ?_); rintro e' wx ⟨z, o, rfl, Rx, Bx, hx⟩)
  have Rb : MoAt wx w.heap.size mo0 := (Bx.block _ (Nat.lt_succ_self _)).trans R0.out
  have Bb : Below w.heap.size w wx := B.out.trans (Bx.mono (Nat.le_succ _))
  replace R0 := Lib.hid Rb
  replace B := Lib.hid Bb
  replace R := Lib.hid Rx
  clear Rb Bb Rx Bx
  have HX := Lib.hid hx
  clear hx
  obtain ⟨mm, hmm⟩ : ∃ mm : Mo8, mm = { mo1 with y := y, mo := mo, d := d, z := z, o := o } := ⟨_, rfl⟩
  have rb : wx.heap[w.heap.size + 1]? = some (.cells mm.cells 69 (0, 0)) := by rw [hmm]; exact R.out
  have ra : wx.heap[w.heap.size]? = some (.cells mo0.cells 69 (0, 0)) := R0.out
  have hi9 : (Tryz.prog.info? 69).map (·.size) = some mm.cells.size := by kernel_rfl
  have one : mm.cells.all (·.oneCell') = true := by simp [Mo8.cells, Value.oneCell']
  have HM := Lib.hid hmm
  have RA := Lib.hid ra
  have RB := Lib.hid rb
  have HI := Lib.hid hi9
  have ONE := Lib.hid one
  clear hmm ra rb hi9 one R R0
  go_wp2_with (first | (refine wpList_load_row rfl 69 _ rfl (w.heap.size + 1) rfl _ mm.cells _ _ RB.out Tryz.underlying69 rfl HI.out ?_) | (refine wpList_store_row rfl 69 _ _ rfl w.heap.size mm.cells rfl rfl _ _ RA.out HI.out rfl ONE.out ?_))
  have rn := setRow_heap wx w.heap.size mo0.cells mm.cells _ _ RA.out
  have hB := B.out
  refine bodyPost_ret (results_rt8 rfl _ _ w.heap.size _ _ _ _ rfl rn Tryz.underlying69 rfl HI.out) rfl ⟨mm, rfl, ⟨hB.os, hB.tape, hB.output, by simpa using hB.size, fun k hk => (setRow_other _ _ k _ (by omega)).trans (hB.block k hk)⟩, by rw [HM.out]; exact HX.out⟩
set_option maxRecDepth 100000 in
set_option maxHeartbeats 4000000 in
theorem re_i8 (w : World) (s : ByteArray) (Q : Mo8 → Prop) (ht : ∀ x, MoAt x (w.heap.size + 1) mo1 → Calls Tryz.prog 91 #[.pointer (some ⟨w.heap.size + 1, 0, none⟩), .string s] x fun e x' => ∃ (R f : ByteArray) (h mi sc : Int), e = .returned (.tuple #[.string R, .bool false]) ∧ MoAt x' (w.heap.size + 1) { mo1 with h := h, mi := mi, s := sc, f := f } ∧ Below (w.heap.size + 1) x x' ∧ True) :
    Calls Tryz.prog 44 #[.string s, .int .i64 8] w (RePost false Q w) := by
  have HT := Lib.hid ht
  clear ht
  have hbd : Below w.heap.size w w := Below.refl _ _
  go_enter Tryz.func44, Tryz.ntmps44
  go_upto_region 2 with fail
  obtain ⟨r0, r1, hb⟩ := box2 w (.cells mo0.cells 69) (.cells mo1.cells 69)
  simp only [mo0, mo1, Mo8.cells] at r0 r1 hb
  generalize World.alloc (World.alloc w _) _ = w0 at r0 r1 hb ⊢
  have r0' : MoAt w0 w.heap.size mo0 := r0
  have r1' : MoAt w0 (w.heap.size + 1) mo1 := r1
  have R0 := Lib.hid r0'
  have R := Lib.hid r1'
  have B := Lib.hid hb
  clear r0 r1 hb hbd r0' r1'
  go_upto_region 11 with (go_at_call 91; (with_reducible refine (HT.out _ R.out).mono ?_); rintro e' wx ⟨R3, f, h, mi, sc, rfl, Rx, Bx, hx⟩)
  have Rb : MoAt wx w.heap.size mo0 := (Bx.block _ (Nat.lt_succ_self _)).trans R0.out
  have Bb : Below w.heap.size w wx := B.out.trans (Bx.mono (Nat.le_succ _))
  replace R0 := Lib.hid Rb
  replace B := Lib.hid Bb
  replace R := Lib.hid Rx
  clear Rb Bb Rx Bx
  clear hx
  obtain ⟨mm, hmm⟩ : ∃ mm : Mo8, mm = { mo1 with h := h, mi := mi, s := sc, f := f } := ⟨_, rfl⟩
  have rb : wx.heap[w.heap.size + 1]? = some (.cells mm.cells 69 (0, 0)) := by rw [hmm]; exact R.out
  have ra : wx.heap[w.heap.size]? = some (.cells mo0.cells 69 (0, 0)) := R0.out
  have hi9 : (Tryz.prog.info? 69).map (·.size) = some mm.cells.size := by kernel_rfl
  have one : mm.cells.all (·.oneCell') = true := by simp [Mo8.cells, Value.oneCell']
  have HM := Lib.hid hmm
  have RA := Lib.hid ra
  have RB := Lib.hid rb
  have HI := Lib.hid hi9
  have ONE := Lib.hid one
  clear hmm ra rb hi9 one R R0
  go_wp2_with (first | (refine wpList_load_row rfl 69 _ rfl (w.heap.size + 1) rfl _ mm.cells _ _ RB.out Tryz.underlying69 rfl HI.out ?_) | (refine wpList_store_row rfl 69 _ _ rfl w.heap.size mm.cells rfl rfl _ _ RA.out HI.out rfl ONE.out ?_))
  have rn := setRow_heap wx w.heap.size mo0.cells mm.cells _ _ RA.out
  have hB := B.out
  refine bodyPost_ret (results_rt8 rfl _ _ w.heap.size _ _ _ _ rfl rn Tryz.underlying69 rfl HI.out) rfl ⟨mm, rfl, ⟨hB.os, hB.tape, hB.output, by simpa using hB.size, fun k hk => (setRow_other _ _ k _ (by omega)).trans (hB.block k hk)⟩, (fun h => by cases h)⟩
set_option maxRecDepth 100000 in
set_option maxHeartbeats 4000000 in
theorem re_z8 (w : World) (s : ByteArray) (P Q : Mo8 → Prop) (ok : Bool) (Z1 : ByteArray) (ht : ∀ x, MoAt x (w.heap.size + 1) mo1 → Calls Tryz.prog 91 #[.pointer (some ⟨w.heap.size + 1, 0, none⟩), .string s] x fun e x' => ∃ (R f : ByteArray) (h mi sc : Int), e = .returned (.tuple #[.string R, .bool true]) ∧ MoAt x' (w.heap.size + 1) { mo1 with h := h, mi := mi, s := sc, f := f } ∧ Below (w.heap.size + 1) x x' ∧ (R = Z1 ∧ P { mo1 with h := h, mi := mi, s := sc, f := f })) (hz : ∀ x, ∀ m : Mo8, P m ∧ m.z = false ∧ m.o = 0 → MoAt x (w.heap.size + 1) m → Calls Tryz.prog 92 #[.pointer (some ⟨w.heap.size + 1, 0, none⟩), .string Z1] x fun e x' => ∃ (z : Bool) (o : Int), e = .returned (.bool ok) ∧ MoAt x' (w.heap.size + 1) { m with z := z, o := o } ∧ Below (w.heap.size + 1) x x' ∧ (ok = true → Q { m with z := z, o := o })) :
    Calls Tryz.prog 44 #[.string s, .int .i64 8] w (RePost ok Q w) := by
  have HT := Lib.hid ht
  have HZ := Lib.hid hz
  clear ht hz
  have hbd : Below w.heap.size w w := Below.refl _ _
  go_enter Tryz.func44, Tryz.ntmps44
  go_upto_region 2 with fail
  obtain ⟨r0, r1, hb⟩ := box2 w (.cells mo0.cells 69) (.cells mo1.cells 69)
  simp only [mo0, mo1, Mo8.cells] at r0 r1 hb
  generalize World.alloc (World.alloc w _) _ = w0 at r0 r1 hb ⊢
  have r0' : MoAt w0 w.heap.size mo0 := r0
  have r1' : MoAt w0 (w.heap.size + 1) mo1 := r1
  have R0 := Lib.hid r0'
  have R := Lib.hid r1'
  have B := Lib.hid hb
  clear r0 r1 hb hbd r0' r1'
  go_upto_region 11 with (go_at_call 91; (with_reducible refine (HT.out _ R.out).mono ?_); rintro e' wx ⟨R3, f, h, mi, sc, rfl, Rx, Bx, hx⟩)
  obtain ⟨rfl, hP⟩ := hx
  have Rb : MoAt wx w.heap.size mo0 := (Bx.block _ (Nat.lt_succ_self _)).trans R0.out
  have Bb : Below w.heap.size w wx := B.out.trans (Bx.mono (Nat.le_succ _))
  replace R0 := Lib.hid Rb
  replace B := Lib.hid Bb
  replace R := Lib.hid Rx
  clear Rb Bb Rx Bx
  go_upto_region 13 with (go_at_call 92; (with_reducible refine (HZ.out _ _ ⟨hP, rfl, rfl⟩ R.out).mono ?_); rintro e' wx ⟨z, o, rfl, Rx, Bx, hx⟩)
  have Rb : MoAt wx w.heap.size mo0 := (Bx.block _ (Nat.lt_succ_self _)).trans R0.out
  have Bb : Below w.heap.size w wx := B.out.trans (Bx.mono (Nat.le_succ _))
  replace R0 := Lib.hid Rb
  replace B := Lib.hid Bb
  replace R := Lib.hid Rx
  clear Rb Bb Rx Bx
  have HX := Lib.hid hx
  clear hx hP
  obtain ⟨mm, hmm⟩ : ∃ mm : Mo8, mm = { mo1 with h := h, mi := mi, s := sc, f := f, z := z, o := o } := ⟨_, rfl⟩
  have rb : wx.heap[w.heap.size + 1]? = some (.cells mm.cells 69 (0, 0)) := by rw [hmm]; exact R.out
  have ra : wx.heap[w.heap.size]? = some (.cells mo0.cells 69 (0, 0)) := R0.out
  have hi9 : (Tryz.prog.info? 69).map (·.size) = some mm.cells.size := by kernel_rfl
  have one : mm.cells.all (·.oneCell') = true := by simp [Mo8.cells, Value.oneCell']
  have HM := Lib.hid hmm
  have RA := Lib.hid ra
  have RB := Lib.hid rb
  have HI := Lib.hid hi9
  have ONE := Lib.hid one
  clear hmm ra rb hi9 one R R0
  go_wp2_with (first | (refine wpList_load_row rfl 69 _ rfl (w.heap.size + 1) rfl _ mm.cells _ _ RB.out Tryz.underlying69 rfl HI.out ?_) | (refine wpList_store_row rfl 69 _ _ rfl w.heap.size mm.cells rfl rfl _ _ RA.out HI.out rfl ONE.out ?_))
  have rn := setRow_heap wx w.heap.size mo0.cells mm.cells _ _ RA.out
  have hB := B.out
  refine bodyPost_ret (results_rt8 rfl _ _ w.heap.size _ _ _ _ rfl rn Tryz.underlying69 rfl HI.out) rfl ⟨mm, rfl, ⟨hB.os, hB.tape, hB.output, by simpa using hB.size, fun k hk => (setRow_other _ _ k _ (by omega)).trans (hB.block k hk)⟩, by rw [HM.out]; exact HX.out⟩
end Go.Proofs.YtlhcejbimlilaaaGreatDoor
/- The program's own texts of moments. -/
namespace Go.Tk
open Go Go.RowKit Go.Proofs.YtlhcejbimlilaaaGreatDoor
structure MtS (m : Mt) (L : Nat) : Prop where
  s1 : -33000000000000000 ≤ m.sec
  s2 : m.sec ≤ 33000000000000000
  z1 : -900 ≤ m.zone
  z2 : m.zone ≤ 900
  pl : m.part.length ≤ L
  sl : m.sp.length ≤ L + 1
theorem rdZ_bd {z : List UInt8} {x : Bool × Int} (h : rdZ z = some x) : -900 ≤ x.2 ∧ x.2 ≤ 900 := by
  cases z with
  | nil =>
    obtain rfl := Option.some.inj (show some (false, (0 : Int)) = some x from h)
    simp
  | cons c t =>
    rw [rdZ_eq] at h
    split at h
    · obtain rfl := Option.some.inj h; simp
    split at h
    · cases h
    unfold rdZ2 at h
    cases h1 : twoP t [58] with
    | none => rw [h1] at h; cases h
    | some q =>
      obtain ⟨hh, r⟩ := q
      rw [h1] at h
      simp only at h
      unfold rdZ3 at h
      cases h2 : twoP r [] with
      | none => rw [h2] at h; cases h
      | some q =>
        obtain ⟨m, e⟩ := q
        rw [h2] at h
        simp only at h
        have b1 := twoP_bd h1
        have b2 := twoP_bd h2
        split at h
        · cases h
        · rename_i hn
          obtain rfl := Option.some.inj h
          have n1 : ¬ 59 < m := fun g => hn (.inr (.inl g))
          have n2 : ¬ 14 < hh := fun g => hn (.inr (.inr (.inl g)))
          dsimp only
          split <;> omega
theorem inP_bd {sec : Int} {p z : List UInt8} {m : Mt} {L : Nat} (h : inP sec p z = some m) (h1 : -33000000000000000 ≤ sec) (h2 : sec ≤ 33000000000000000) (hp : p.length ≤ L) (hz : z.length ≤ L) : MtS m L := by
  unfold inP at h
  cases ho : rdZ z with
  | none => rw [ho] at h; cases h
  | some x =>
    rw [ho] at h
    obtain rfl := Option.some.inj h
    have hb := rdZ_bd ho
    refine ⟨h1, h2, hb.1, hb.2, hp, ?_⟩
    dsimp only
    split
    · simp
    · omega
theorem rdDay_bd {s : List UInt8} {m : Mt} (h : rdDay s = some m) : MtS m s.length := by
  unfold rdDay at h
  cases ho : rdD s with
  | none => rw [ho] at h; cases h
  | some q =>
    obtain ⟨n, z⟩ := q
    rw [ho] at h
    have hb := rdD_bd ho
    exact inP_bd h (by omega) (by omega) (by simp) hb.2
theorem rdClk_bd {s : List UInt8} {m : Mt} (h : rdClk s = some m) : MtS m s.length := by
  unfold rdClk at h
  cases ho : rdT s with
  | none => rw [ho] at h; cases h
  | some q =>
    obtain ⟨c, p, z⟩ := q
    rw [ho] at h
    have hb := rdT_bd ho
    exact inP_bd h (by omega) (by omega) hb.2.1 hb.2.2
theorem rdDT_bd {s : List UInt8} {m : Mt} (h : rdDT s = some m) : MtS m s.length := by
  unfold rdDT at h
  cases ho : rdD s with
  | none => rw [ho] at h; cases h
  | some q =>
    obtain ⟨n, r⟩ := q
    rw [ho] at h
    have hb := rdD_bd ho
    simp only at h
    split at h
    · cases hq : rdT (r.drop 1) with
      | none => rw [hq] at h; cases h
      | some x =>
        obtain ⟨c, p, z⟩ := x
        rw [hq] at h
        have hc := rdT_bd hq
        rw [List.length_drop] at hc
        exact inP_bd h (by omega) (by omega) (by omega) (by omega)
    · cases h
theorem MtS.b {m : Mt} {L : Nat} (h : MtS m L) : MtB m := ⟨by have := h.s1; omega, by have := h.s2; omega, by have := h.z1; omega, by have := h.z2; omega⟩
def DtP2 (n : Int) (tail : List UInt8) (w : World) (e : Ending) (w' : World) : Prop := ∃ y m d : Int, e = .returned (.tuple #[.string ⟨(dtP y m d ++ tail).toArray⟩, .bool (decide ((if y < 0 then -y else y) ≤ 999999999))]) ∧ IsDate n y m d ∧ Below w.heap.size w w'
end Go.Tk
namespace Go.Proofs.YtlhcejbimlilaaaGreatDoor
open Go.RowKit Go.Tk
set_option maxHeartbeats 2000000 in
theorem ownTime_calls (s : ByteArray) (m : Mt) (w : World) (hpw : Pow w) (hs : s.size ≤ 65536) (hm : rdClk s.data.toList = some m) :
    Calls Tryz.prog 61 #[.string s] w fun e w' => e = .returned (.tuple #[.string ⟨(ckP m.sec m.part ++ m.sp).toArray⟩, .bool true]) ∧ Below w.heap.size w w' := by
  have hb := rdClk_bd hm
  rw [← Lib.size_eq] at hb
  have hr : ∀ w, Calls Tryz.prog 38 #[.string s] w fun e w' => e = .returned (.tuple #[m.val, .bool true]) ∧ Below w.heap.size w w' := fun w => by
    refine (readClock_calls s w (by omega)).mono fun e w' h => ?_
    obtain ⟨m', he, hmo, hbw⟩ := h
    obtain rfl := hmo m hm
    rw [hm] at he
    exact ⟨he, hbw⟩
  have hc := fun w h => clock_calls m w h ⟨by have := hb.s1; omega, by have := hb.s2; omega⟩ (by have := hb.pl; omega)
  have hsl := hb.sl
  obtain ⟨T, hT⟩ : ∃ T : ByteArray, T = ⟨(ckP m.sec m.part).toArray⟩ := ⟨_, rfl⟩
  have hfin : (⟨(ckP m.sec m.part ++ m.sp).toArray⟩ : ByteArray) = T ++ ⟨m.sp.toArray⟩ := by rw [hT, ba_app]
  have hTs : T.size ≤ 65700 := by
    rw [hT, sz_mk]
    unfold ckP
    have l1 := pdP_len (m.sec % 86400 / 3600) 2 (by omega) (by omega) (by omega)
    have l2 := pdP_len (m.sec % 86400 / 60 % 60) 2 (by omega) (by omega) (by omega)
    have l3 := pdP_len (m.sec % 86400 % 60) 2 (by omega) (by omega) (by omega)
    have hpl := hb.pl
    simp only [List.length_append, List.length_cons, List.length_nil]
    split
    · simp only [List.length_nil]; omega
    · simp only [List.length_cons]; omega
  rw [hfin]
  rw [← hT] at hc
  obtain ⟨ms, mp, mz, mn, mq⟩ := m
  unfold Mt.val at hr hc
  dsimp only at hr hc hsl ⊢
  obtain ⟨Q, hQ⟩ : ∃ Q : ByteArray, Q = ⟨mq.toArray⟩ := ⟨_, rfl⟩
  have hQs : Q.size ≤ 65537 := by rw [hQ, sz_mk]; omega
  rw [← hQ] at hr hc ⊢
  have HR := Lib.hid hr
  have HC := Lib.hid hc
  have HPW := Lib.hid hpw
  clear hr hc hpw hm hb hT hfin hQ hsl
  go_enter Tryz.func61, Tryz.ntmps61
  go_upto_region 2 with (go_at_call 38; (with_reducible refine (HR.out _).mono ?_); rintro e w1 ⟨rfl, hb1⟩)
  obtain ⟨r1, hb⟩ := box1 w1 (.cells #[.int .i64 ms, .string ⟨mp.toArray⟩, .bool mz, .int .i64 mn, .string Q] 76)
  generalize World.alloc w1 _ = w2 at r1 hb ⊢
  have hb2 := hb1.trans (hb.mono hb1.size)
  have hp2 := HPW.out.below hb2
  have q1 := Lw.row r1
  have x0 := fun x => (row_cell (q1 x) 0)
  have x1 := fun x => (row_cell (q1 x) 1)
  have x2 := fun x => (row_cell (q1 x) 2)
  have x3 := fun x => (row_cell (q1 x) 3)
  have x4 := fun x => (row_cell (q1 x) 4)
  simp at x0 x1 x2 x3 x4
  have hc2 : ∀ x : Lw w2, Calls Tryz.prog 104 #[.agg #[.int .i64 ms, .string ⟨mp.toArray⟩, .bool mz, .int .i64 mn, .string Q]] x.to fun e w' => e = .returned (.string T) ∧ Below x.to.heap.size x.to w' := fun x => HC.out x.to (hp2.below x.bel)
  have HC2 := Lib.hid hc2
  clear q1 r1 hb1 hb hp2 hc2
  refine wp_region_lw (by kernel_rfl) (by kernel_rfl) ?_
  repeat (go_big_quiet_step (first | exact rfl | (go_at_call 104; with_reducible exact lw_call (HC2.out _))))
  refine wpQuiet_nil ?_
  rintro ⟨w3, hb3⟩
  dsimp only
  have hb4 := hb2.trans (hb3.mono hb2.size)
  clear x0 x1 x2 x3 x4 hb2 hb3
  go_wp2_with fail
  go_ret2
  exact ⟨rfl, hb4⟩
theorem dtP_len (y m d : Int) (h1 : -1100000000 ≤ y) (h2 : y ≤ 1100000000) (h3 : 1 ≤ m) (h4 : m ≤ 12) (h5 : 1 ≤ d) (h6 : d ≤ 31) : (dtP y m d).length ≤ 100 := by
  unfold dtP
  have hYb : -1 < (if y < 0 then -y else y) ∧ (if y < 0 then -y else y) ≤ 1100000000 := by split <;> omega
  obtain ⟨Y, hY⟩ : ∃ Y : Int, Y = if y < 0 then -y else y := ⟨_, rfl⟩
  rw [← hY] at hYb ⊢
  have l1 := pdP_len Y 4 (by omega) (by omega) (by omega)
  have l2 := pdP_len m 2 (by omega) (by omega) (by omega)
  have l3 := pdP_len d 2 (by omega) (by omega) (by omega)
  simp only [List.length_append, List.length_cons, List.length_nil]
  split
  · simp only [List.length_cons, List.length_nil]; omega
  · simp only [List.length_nil]; omega
theorem ckP_len (sec : Int) (part : List UInt8) : (ckP sec part).length ≤ 70 + part.length := by
  unfold ckP
  have l1 := pdP_len (sec % 86400 / 3600) 2 (by omega) (by omega) (by omega)
  have l2 := pdP_len (sec % 86400 / 60 % 60) 2 (by omega) (by omega) (by omega)
  have l3 := pdP_len (sec % 86400 % 60) 2 (by omega) (by omega) (by omega)
  simp only [List.length_append, List.length_cons, List.length_nil]
  split
  · simp only [List.length_nil]; omega
  · simp only [List.length_cons]; omega
set_option maxHeartbeats 2000000 in
theorem ownDate_calls (s : ByteArray) (m : Mt) (w : World) (hpw : Pow w) (hs : s.size ≤ 65536) (hm : rdDay s.data.toList = some m) :
    Calls Tryz.prog 59 #[.string s] w (DtP2 (m.sec / 86400) m.sp w) := by
  have hb := rdDay_bd hm
  rw [← Lib.size_eq] at hb
  have hr : ∀ w, Calls Tryz.prog 37 #[.string s] w fun e w' => e = .returned (.tuple #[m.val, .bool true]) ∧ Below w.heap.size w w' := fun w => by
    refine (readDay_calls s w (by omega)).mono fun e w' h => ?_
    obtain ⟨m', he, hmo, hbw⟩ := h
    obtain rfl := hmo m hm
    rw [hm] at he
    exact ⟨he, hbw⟩
  have hd := fun w h => date_calls m w h ⟨by have := hb.s1; omega, by have := hb.s2; omega⟩
  have hnb : -400000000000 ≤ m.sec / 86400 ∧ m.sec / 86400 ≤ 400000000000 := by have := hb.s1; have := hb.s2; omega
  have hsl := hb.sl
  obtain ⟨n, hn⟩ : ∃ n, n = m.sec / 86400 := ⟨_, rfl⟩
  rw [← hn] at hd hnb ⊢
  obtain ⟨ms, mp, mz, mn, mq⟩ := m
  unfold Mt.val at hr hd
  dsimp only at hr hd hsl ⊢
  obtain ⟨Q, hQ⟩ : ∃ Q : ByteArray, Q = ⟨mq.toArray⟩ := ⟨_, rfl⟩
  have hQs : Q.size ≤ 65537 := by rw [hQ, sz_mk]; omega
  rw [← hQ] at hr hd
  have hQd : Q.data.toList = mq := by rw [hQ]
  have HR := Lib.hid hr
  have HD := Lib.hid hd
  have HPW := Lib.hid hpw
  have HNB := Lib.hid hnb
  have HQ := Lib.hid hQd
  clear hr hd hpw hm hb hQ hsl hn hnb hQd
  go_enter Tryz.func59, Tryz.ntmps59
  go_upto_region 2 with (go_at_call 37; (with_reducible refine (HR.out _).mono ?_); rintro e w1 ⟨rfl, hb1⟩)
  obtain ⟨r1, hb⟩ := box1 w1 (.cells #[.int .i64 ms, .string ⟨mp.toArray⟩, .bool mz, .int .i64 mn, .string Q] 76)
  generalize World.alloc w1 _ = w2 at r1 hb ⊢
  have hb2 := hb1.trans (hb.mono hb1.size)
  have HP2 := Lib.hid (HPW.out.below hb2)
  have HB2 := Lib.hid hb2
  have x0 := row_cell r1 0
  have x1 := row_cell r1 1
  have x2 := row_cell r1 2
  have x3 := row_cell r1 3
  have x4 := row_cell r1 4
  simp at x0 x1 x2 x3 x4
  have hz := lt_of_block r1
  clear r1 hb1 hb hb2
  go_wp2_with (go_at_call 103; (with_reducible refine (HD.out _ HP2.out).mono ?_); rintro e w3 ⟨y, mo, d, rfl, hid, hb3⟩; (have HID := Lib.hid hid); clear hid; (have x4' := (hb3.cell (p := ⟨w1.heap.size, 4, none⟩) hz).trans x4); (have hlen : (⟨(dtP y mo d).toArray⟩ : ByteArray).size ≤ 100 := by rw [sz_mk]; have hib := isDate_bd HID.out HNB.out; exact dtP_len y mo d hib.1 hib.2.1 HID.out.m1 HID.out.m2 HID.out.d1 hib.2.2); (obtain ⟨D, hD⟩ : ∃ D : ByteArray, D = ⟨(dtP y mo d).toArray⟩ := ⟨_, rfl⟩); (obtain ⟨ok, hok⟩ : ∃ b, b = decide ((if y < 0 then -y else y) ≤ 999999999) := ⟨_, rfl⟩); rw [← hD] at hlen ⊢; rw [← hok]; (have HDD := Lib.hid hD); (have HOK := Lib.hid hok); clear hD hok)
  refine bodyPost_ret (v := .tuple #[.string (D ++ Q), .bool ok]) (by simp [results, Tryz.results59, go_sem]) rfl ⟨y, mo, d, ?_, HID.out, HB2.out.trans (hb3.mono HB2.out.size)⟩
  rw [HOK.out]
  exact rs_str2 (by rw [HDD.out, ← HQ.out, ba_app'])
set_option maxHeartbeats 2000000 in
theorem ownDateTime_calls (s : ByteArray) (m : Mt) (w : World) (hpw : Pow w) (hs : s.size ≤ 65536) (hm : rdDT s.data.toList = some m) :
    Calls Tryz.prog 57 #[.string s] w (DtP2 ((utM m).sec / 86400) ([84] ++ ckP (utM m).sec (utM m).part ++ (utM m).sp) w) := by
  have hb := rdDT_bd hm
  rw [← Lib.size_eq] at hb
  have hr : ∀ w, Calls Tryz.prog 36 #[.string s] w fun e w' => e = .returned (.tuple #[m.val, .bool true]) ∧ Below w.heap.size w w' := fun w => by
    refine (readDateTime_calls s w (by omega)).mono fun e w' h => ?_
    obtain ⟨m', he, hmo, hbw⟩ := h
    obtain rfl := hmo m hm
    rw [hm] at he
    exact ⟨he, hbw⟩
  have hu := fun w => utc_calls m w ⟨by have := hb.s1; omega, by have := hb.s2; omega⟩ ⟨by have := hb.z1; omega, by have := hb.z2; omega⟩
  have hus : (utM m).sec = m.sec - 60 * m.zone := rfl
  have hup : (utM m).part = m.part := rfl
  have huq : (utM m).sp.length ≤ 65537 := by
    unfold utM
    dsimp only
    split
    · simp
    · have := hb.sl; omega
  obtain ⟨M, hM⟩ : ∃ M, M = utM m := ⟨_, rfl⟩
  rw [← hM] at hu hus hup huq ⊢
  have hsb : -34000000000000000 ≤ M.sec ∧ M.sec ≤ 34000000000000000 := by rw [hus]; have := hb.s1; have := hb.s2; have := hb.z1; have := hb.z2; omega
  have hpl : M.part.length ≤ 65536 := by rw [hup]; have := hb.pl; omega
  have hd := fun w h => date_calls M w h hsb
  have hc := fun w h => clock_calls M w h hsb (by omega)
  have hck := ckP_len M.sec M.part
  have hnb : -400000000000 ≤ M.sec / 86400 ∧ M.sec / 86400 ≤ 400000000000 := by omega
  obtain ⟨n, hn⟩ : ∃ n, n = M.sec / 86400 := ⟨_, rfl⟩
  rw [← hn] at hd hnb ⊢
  obtain ⟨T, hT⟩ : ∃ T : ByteArray, T = ⟨(ckP M.sec M.part).toArray⟩ := ⟨_, rfl⟩
  rw [← hT] at hc
  have hTd : T.data.toList = ckP M.sec M.part := by rw [hT]
  rw [← hTd]
  have hTs : T.size ≤ 65700 := by rw [Lib.size_eq, hTd]; omega
  obtain ⟨ms, mp, mz, mn, mq⟩ := m
  obtain ⟨ns, np, nz, nn, nq'⟩ := M
  unfold Mt.val at hr hd hu hc
  dsimp only at hr hd hu hc huq ⊢
  obtain ⟨Q, hQ⟩ : ∃ Q : ByteArray, Q = ⟨nq'.toArray⟩ := ⟨_, rfl⟩
  have hQs : Q.size ≤ 65537 := by rw [hQ, sz_mk]; omega
  rw [← hQ] at hu hd hc
  have hQd : Q.data.toList = nq' := by rw [hQ]
  have HR := Lib.hid hr
  have HU := Lib.hid hu
  have HD := Lib.hid hd
  have HC := Lib.hid hc
  have HPW := Lib.hid hpw
  have HNB := Lib.hid hnb
  have HQ := Lib.hid hQd
  obtain ⟨TL, hTL⟩ : ∃ TL, TL = [84] ++ T.data.toList ++ nq' := ⟨_, rfl⟩
  rw [← hTL]
  have HTL := Lib.hid hTL
  clear hTL hr hd hu hc hpw hm hb hQ hn hnb hQd hT hTd hM hus hup huq hsb hpl hck
  go_enter Tryz.func57, Tryz.ntmps57
  go_upto_region 2 with (go_at_call 36; (with_reducible refine (HR.out _).mono ?_); rintro e w1 ⟨rfl, hb1⟩)
  obtain ⟨r1, hb⟩ := box1 w1 (.cells #[.int .i64 ms, .string ⟨mp.toArray⟩, .bool mz, .int .i64 mn, .string ⟨mq.toArray⟩] 76)
  generalize World.alloc w1 _ = w2 at r1 hb ⊢
  have hb2 := hb1.trans (hb.mono hb1.size)
  have HB2 := Lib.hid hb2
  have x0 := row_cell r1 0
  have x1 := row_cell r1 1
  have x2 := row_cell r1 2
  have x3 := row_cell r1 3
  have x4 := row_cell r1 4
  simp at x0 x1 x2 x3 x4
  have hz := lt_of_block r1
  have R1 := Lib.hid r1
  have hsz := hb1.size
  clear r1 hb1 hb hb2
  go_upto_region 3 with (go_at_call 102; (with_reducible refine (HU.out _).mono ?_); rintro e w3 ⟨rfl, hb3⟩; (have r3 := (hb3.block _ hz).trans R1.out); (have y0 := row_cell r3 0); (have y1 := row_cell r3 1); (have y2 := row_cell r3 2); (have y3 := row_cell r3 3); (have y4 := row_cell r3 4); simp at y0 y1 y2 y3 y4; (have f3 : ∀ i, w3.frozen? ⟨w1.heap.size, i, none⟩ = false := fun i => frozen_of_row _ _ _ _ _ r3))
  have s0 := set_row (i := 0) (v := .int .i64 ns) r3 rfl
  have s1 := set_row (i := 1) (v := .string ⟨np.toArray⟩) s0 rfl
  have s2 := set_row (i := 2) (v := .bool nz) s1 rfl
  have s3 := set_row (i := 3) (v := .int .i64 nn) s2 rfl
  have s4 := set_row (i := 4) (v := .string Q) s3 rfl
  have hbA := HB2.out.trans (hb3.mono HB2.out.size)
  have hbB := ((((hbA.setCell (p := ⟨w1.heap.size, 0, none⟩) hsz (.int .i64 ns)).setCell (p := ⟨w1.heap.size, 1, none⟩) hsz (.string ⟨np.toArray⟩)).setCell (p := ⟨w1.heap.size, 2, none⟩) hsz (.bool nz)).setCell (p := ⟨w1.heap.size, 3, none⟩) hsz (.int .i64 nn)).setCell (p := ⟨w1.heap.size, 4, none⟩) hsz (.string Q)
  generalize World.setCell (World.setCell (World.setCell (World.setCell (World.setCell w3 _ _) _ _) _ _) _ _) _ _ = w4 at s4 hbB ⊢
  clear x0 x1 x2 x3 x4 y0 y1 y2 y3 y4 r3 s0 s1 s2 s3 f3 hbA hb3
  have hz4 := lt_of_block s4
  have HP4 := Lib.hid (HPW.out.below hbB)
  have HBB := Lib.hid hbB
  have x0 := row_cell s4 0
  have x1 := row_cell s4 1
  have x2 := row_cell s4 2
  have x3 := row_cell s4 3
  have x4 := row_cell s4 4
  simp at x0 x1 x2 x3 x4
  have S4 := Lib.hid s4
  clear s4 hbB
  go_upto_region 4 with (go_at_call 103; (with_reducible refine (HD.out _ HP4.out).mono ?_); rintro e w5 ⟨y, mo, d, rfl, hid, hb5⟩; (have HID := Lib.hid hid); clear hid; (have hlen : (⟨(dtP y mo d).toArray⟩ : ByteArray).size ≤ 100 := by rw [sz_mk]; have hib := isDate_bd HID.out HNB.out; exact dtP_len y mo d hib.1 hib.2.1 HID.out.m1 HID.out.m2 HID.out.d1 hib.2.2); (obtain ⟨D, hD⟩ : ∃ D : ByteArray, D = ⟨(dtP y mo d).toArray⟩ := ⟨_, rfl⟩); (obtain ⟨ok, hok⟩ : ∃ b, b = decide ((if y < 0 then -y else y) ≤ 999999999) := ⟨_, rfl⟩); rw [← hD] at hlen ⊢; rw [← hok]; (have HDD := Lib.hid hD); (have HOK := Lib.hid hok); clear hD hok)
  have r5 := (hb5.block _ hz4).trans S4.out
  have hp5 := HP4.out.below hb5
  have hbC := HBB.out.trans (hb5.mono HBB.out.size)
  clear x0 x1 x2 x3 x4
  have q1 := Lw.row r5
  have x0 := fun x => (row_cell (q1 x) 0)
  have x1 := fun x => (row_cell (q1 x) 1)
  have x2 := fun x => (row_cell (q1 x) 2)
  have x3 := fun x => (row_cell (q1 x) 3)
  have x4 := fun x => (row_cell (q1 x) 4)
  simp at x0 x1 x2 x3 x4
  have hc2 : ∀ x : Lw w5, Calls Tryz.prog 104 #[.agg #[.int .i64 ns, .string ⟨np.toArray⟩, .bool nz, .int .i64 nn, .string Q]] x.to fun e w' => e = .returned (.string T) ∧ Below x.to.heap.size x.to w' := fun x => HC.out x.to (hp5.below x.bel)
  have HC2 := Lib.hid hc2
  have g1 : (D ++ ⟨#[84]⟩).size ≤ 101 := by rw [ByteArray.size_append]; show D.size + 1 ≤ _; omega
  have g2 : (D ++ ⟨#[84]⟩ ++ T).size ≤ 65801 := by rw [ByteArray.size_append]; omega
  clear q1 r5 hc2 hp5 hb5
  refine wp_region_lw (by kernel_rfl) (by kernel_rfl) ?_
  repeat (go_big_quiet_step (first | exact rfl | (go_at_call 104; with_reducible exact lw_call (HC2.out _))))
  refine wpQuiet_nil ?_
  rintro ⟨w6, hb6⟩
  dsimp only
  have hb7 := hbC.trans (hb6.mono hbC.size)
  clear x0 x1 x2 x3 x4 hbC hb6 g1 g2
  go_wp2_with fail
  refine bodyPost_ret (v := .tuple #[.string (D ++ ⟨#[84]⟩ ++ T ++ Q), .bool ok]) (by simp [results, Tryz.results57, go_sem]) rfl ⟨y, mo, d, ?_, HID.out, hb7⟩
  rw [HOK.out]
  exact rs_str2 (ba_ext (by rw [HTL.out, HDD.out]; simp [HQ.out]))
end Go.Proofs.YtlhcejbimlilaaaGreatDoor
