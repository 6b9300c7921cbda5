/- DoE DoF, laid as one. -/
import Derived.Test.YtjgcmnppiaikcaaDoorDoD
import Derived.Test.YtjgcmnppiaikcaaDoorDkX
import Derived.Test.YtjgcmnppiaikcaaDoorStrs
import Derived.Test.YtjgcmnppiaikcaaDoorHeD
set_option linter.unusedVariables false
set_option linter.unusedSimpArgs false
/- The document's View; what Open's walk holds. -/
namespace Go.Tk
open Go Go.RowKit
theorem results_tcO {P : Program} {fn : Func} {p q : Tmp} {ty : TypeId} (h : fn.results = #[.tmp q, .cell p ty]) (tmps : Array Value) (w : World) (g : Nat) (t : TypeId) (cs : Array Value) (fr : Nat × Nat) (d : TypeDesc)
    (hp : tmps.getD p undef = .pointer (some ⟨g, 0, none⟩)) (hg : w.heap[g]? = some (.cells cs t fr))
    (hu : P.underlying ty = some d) (hd : (match d with | .struct _ | .array _ _ => true | _ => false) = true) (hi : (P.info? ty).map (·.size) = some cs.size) :
    (results fn tmps).run P w = .ok (.tuple #[tmps.getD q undef, .agg cs]) w := by
  have hp' : tmps[p]?.getD undef = .pointer (some ⟨g, 0, none⟩) := by simpa using hp
  simp [results, h, hp', asAddr, run_loadVar_row w g t ty cs fr d hg hu hd hi]
end Go.Tk
namespace Go.Proofs.YtjgcmnppiaikcaaDoor
open Go.RowKit Go.Tk
theorem hdV_agg (b : List UInt8) : ∃ x0 x1 x2 x3 : Int, hdV b = .agg #[.int .i64 x0, .int .i64 x1, .int .i64 x2, .int .i64 x3] := by
  unfold hdV
  split
  · exact ⟨_, _, _, _, rfl⟩
  · exact ⟨_, _, _, _, rfl⟩
set_option maxRecDepth 100000 in
set_option maxHeartbeats 1000000 in
theorem rview_calls (w : World) (a : Option Addr) (c : Nat) (b : List UInt8) (hs : SlI .u8 w a b.length c (nums b)) :
    Calls Tryd.prog 8 #[.slice a b.length c] w fun e w' => e = .returned (.tuple #[hdV b, flV ((shE b).1, (shE b).2)]) ∧ Below w.heap.size w w' := by
  have HI := Lib.hid Tryd.sizeHdO
  have HI2 := Lib.hid Tryd.sizeFlO
  have hR := HdR.new w
  have hsR := hs.keep hR.bl
  obtain ⟨x0, x1, x2, x3, hx⟩ := hdV_agg b
  obtain ⟨y0, hy0⟩ : ∃ y0 : Int, y0 = ((shE b).2 : Nat) := ⟨_, rfl⟩
  obtain ⟨y1, hy1⟩ : ∃ y1 : Int, y1 = (shE b).1 := ⟨_, rfl⟩
  have hf : flV ((shE b).1, (shE b).2) = .agg #[.int .i64 y0, .int .i64 y1] := by rw [hy0, hy1]; rfl
  rw [hf, hx]
  go_enter Tryd.func8, Tryd.ntmps8
  go_upto_region 1 with fail
  generalize (w.alloc (.cells #[.int .i64 0, .int .i64 0, .int .i64 0, .int .i64 0] 35)).alloc (.cells #[.int .i64 0, .int .i64 0] 31) = w1 at hR hsR ⊢
  have hhd := rhead_calls w1 a c b hsR
  rw [hf, hx] at hhd
  have HH := Lib.hid hhd
  have HR := Lib.hid hR
  generalize hgg : w.heap.size = g at HR ⊢
  have HGG := Lib.hid hgg
  clear hhd hR hsR hs hx hf hy0 hy1 hgg
  go_wp2_with (go_at_call 19; (with_reducible refine HH.out.mono ?_); rintro e w2 ⟨rfl, hb⟩; (have HR2 := Lib.hid (HR.out.below hb)); (obtain ⟨c0, c1, c2, c3, d0, d1, ff, ff2⟩ := HR2.out.cs); clear hb)
  refine bodyPost_ret (results_cc rfl _ _ g (g + 1) _ _ _ _ _ _ _ _ rfl (HdR.sto HR2.out _ _ _ _ _ _).1 rfl (HdR.sto HR2.out _ _ _ _ _ _).2.1 Tryd.underlying35 rfl HI.out Tryd.underlying31 rfl HI2.out) rfl ⟨rfl, (HdR.sto HR2.out _ _ _ _ _ _).2.2⟩
theorem ent_zero (eb : List UInt8) (P : Nat) (hP : P ≤ eb.length) (first : Bool) (last : List UInt8) :
    entP eb (P : Nat) first last = ((entP (eb.drop P) 0 first last).1, (if (entP (eb.drop P) 0 first last).2.2 = 0 then (P : Int) + (entP (eb.drop P) 0 first last).2.1 else 0), (entP (eb.drop P) 0 first last).2.2) := by
  unfold entP
  rw [if_neg (show ¬ (((P : Nat) : Int) < 0 ∨ (eb.length : Int) < ((P : Nat) : Int)) by omega), if_neg (show ¬ ((0 : Int) < 0 ∨ ((eb.drop P).length : Int) < 0) by omega)]
  simp only [Int.toNat_natCast, Int.toNat_zero, List.drop_zero]
  generalize (if first = true then ((0, 0, 0) : Int × Nat × Int) else upS (nums (eb.drop P)) 0 0 mxU) = t1
  generalize upS (nums (eb.drop P)) t1.2.1 0 mxU = t2
  by_cases c1 : t1.2.2 = 0
  · by_cases c2 : t2.2.2 = 0
    · by_cases c3 : (last.length : Int) < t1.1
      · simp [c1, c2, c3]
      · by_cases c4 : 262144 < t2.1 ∨ 262144 < t1.1 + t2.1
        · simp [c1, c2, c3, c4]
        · by_cases c5 : ((nums (eb.drop P)).length : Int) - t2.2.1 < t2.1
          · simp [c1, c2, c3, c4, c5]
          · simp only [c1, c2, c3, c4, c5, ne_eq, not_true_eq_false, if_false, if_true]
            refine Prod.ext rfl (Prod.ext ?_ rfl)
            simp only; omega
    · simp [c1, c2]
  · simp [c1]
/-- What an entry says of the whole bytes, by what it says of the entries. -/
theorem ent_shift {b : List UInt8} (hk : ShOk b) (p : Nat) (hp : p ≤ (hdE b).length) (first : Bool) (last : List UInt8) :
    (entP b ((hd4 b + p : Nat) : Int) first last).1 = (entP (hdE b) (p : Nat) first last).1 ∧ (entP b ((hd4 b + p : Nat) : Int) first last).2.2 = (entP (hdE b) (p : Nat) first last).2.2 ∧
      ((entP (hdE b) (p : Nat) first last).2.2 = 0 → (entP b ((hd4 b + p : Nat) : Int) first last).2.1 = (hd4 b : Nat) + (entP (hdE b) (p : Nat) first last).2.1) ∧ upS (nums b) (hd4 b + p) 0 mxU = ((upS (nums ((hdE b).drop p)) 0 0 mxU).1, (upS (nums ((hdE b).drop p)) 0 0 mxU).2.1 + (hd4 b + p), (upS (nums ((hdE b).drop p)) 0 0 mxU).2.2) := by
  have hlen := hk.len
  have he : hdE b = b.drop (hd4 b) := by
    unfold hdE
    rw [List.take_of_length_le (by rw [List.length_drop]; omega)]
  have hel : (hdE b).length = b.length - hd4 b := by rw [he, List.length_drop]
  have hd : (hdE b).drop p = b.drop (hd4 b + p) := by rw [he, List.drop_drop]
  have hle : hd4 b + p ≤ b.length := by omega
  have hup : upS (nums b) (hd4 b + p) 0 mxU = ((upS (nums ((hdE b).drop p)) 0 0 mxU).1, (upS (nums ((hdE b).drop p)) 0 0 mxU).2.1 + (hd4 b + p), (upS (nums ((hdE b).drop p)) 0 0 mxU).2.2) := by
    rw [hd, drop_ups b (hd4 b + p) 0 hle, Nat.add_zero]
    have := (ups_range (nums b) (hd4 b + p) 0 (by rw [nums_len]; exact hle)).2.1
    refine Prod.ext rfl (Prod.ext ?_ rfl)
    simp only; omega
  have e1 := ent_zero b (hd4 b + p) hle first last
  have e2 := ent_zero (hdE b) p hp first last
  rw [hd] at e2
  rw [e1, e2]
  refine ⟨rfl, rfl, fun h => ?_, by rw [hup, hd]⟩
  simp only at h ⊢
  rw [if_pos h, if_pos h]
  omega
end Go.Proofs.YtjgcmnppiaikcaaDoor
/- The document's Open. -/
namespace Go.Proofs.YtjgcmnppiaikcaaDoor
open Go.RowKit Go.Tk
/-- The rows of Open: its fault, the head, the head's fault. -/
structure RoS (w0 W : World) (g3 g4 : Nat) (b : List UInt8) : Prop where
  r3 : W.heap[g3]? = some (.cells #[.int .i64 0, .int .i64 0] 31 (0, 0))
  r4 : W.heap[g4]? = some (.cells #[.int .i64 (hdN b : Nat), .int .i64 (hdS b : Nat), .int .i64 (hd3 b : Nat), .int .i64 (hd4 b : Nat)] 35 (0, 0))
  bl : Below w0.heap.size w0 W
  gb : w0.heap.size ≤ g3
theorem RoS.below {w0 w1 w2 : World} {g3 g4 : Nat} {b : List UInt8} (h : RoS w0 w1 g3 g4 b) (hb : Below w1.heap.size w1 w2) : RoS w0 w2 g3 g4 b :=
  ⟨(hb.block _ (lt_of_block h.r3)).trans h.r3, (hb.block _ (lt_of_block h.r4)).trans h.r4, h.bl.trans (hb.mono h.bl.size), h.gb⟩
theorem RoS.sto {w0 w1 : World} {g3 g4 : Nat} {b : List UInt8} (h : RoS w0 w1 g3 g4 b) (y0 y1 : Value) :
    ((w1.setCell ⟨g3, 0, none⟩ y0).setCell ⟨g3, 1, none⟩ y1).heap[g3]? = some (.cells #[y0, y1] 31 (0, 0)) ∧ Below w0.heap.size w0 ((w1.setCell ⟨g3, 0, none⟩ y0).setCell ⟨g3, 1, none⟩ y1) :=
  ⟨stor2O h.r3, (h.bl.setCell (p := ⟨g3, 0, none⟩) h.gb _).setCell (p := ⟨g3, 1, none⟩) h.gb _⟩
structure RoC (W : World) (g3 : Nat) : Prop where
  c0 : W.cell? ⟨g3, 0, none⟩ = some (.int .i64 0)
  c1 : W.cell? ⟨g3, 1, none⟩ = some (.int .i64 0)
  f : ∀ i, W.frozen? ⟨g3, i, none⟩ = false
theorem RoS.cs {w0 w1 : World} {g3 g4 : Nat} {b : List UInt8} (h : RoS w0 w1 g3 g4 b) : RoC w1 g3 :=
  ⟨cell_of_row w1 g3 0 _ _ _ h.r3, cell_of_row w1 g3 1 _ _ _ h.r3, fun i => frozen_of_row w1 g3 i _ _ h.r3⟩
structure RoH (W : World) (g4 : Nat) (b : List UInt8) : Prop where
  h0 : W.cell? ⟨g4, 0, none⟩ = some (.int .i64 (hdN b : Nat))
  h1 : W.cell? ⟨g4, 1, none⟩ = some (.int .i64 (hdS b : Nat))
  h2 : W.cell? ⟨g4, 2, none⟩ = some (.int .i64 (hd3 b : Nat))
  h3 : W.cell? ⟨g4, 3, none⟩ = some (.int .i64 (hd4 b : Nat))
theorem RoS.hs {w0 w1 : World} {g3 g4 : Nat} {b : List UInt8} (h : RoS w0 w1 g3 g4 b) : RoH w1 g4 b :=
  ⟨cell_of_row w1 g4 0 _ _ _ h.r4, cell_of_row w1 g4 1 _ _ _ h.r4, cell_of_row w1 g4 2 _ _ _ h.r4, cell_of_row w1 g4 3 _ _ _ h.r4⟩
theorem Tryd.infoStrO : (Tryd.prog.info? 9).map (fun i => (i.zero, i.size, i.bytes)) = some (some (.string ⟨#[]⟩), 1, 16) := by kernel_rfl
set_option maxRecDepth 100000 in
set_option maxHeartbeats 1000000 in
theorem ropen_no (w : World) (a : Option Addr) (c : Nat) (b : List UInt8) (hs : SlI .u8 w a b.length c (nums b)) (he : (shE b).1 ≠ 0) :
    Calls Tryd.prog 7 #[.slice a b.length c] w fun e w' => ∃ v, e = .returned (.tuple #[v, flV ((shE b).1, (shE b).2)]) ∧ Below w.heap.size w w' := by
  have HI2 := Lib.hid Tryd.sizeFlO
  obtain ⟨x0, x1, x2, x3, hx⟩ := hdV_agg b
  obtain ⟨y0, hy0⟩ : ∃ y0 : Int, y0 = ((shE b).2 : Nat) := ⟨_, rfl⟩
  obtain ⟨y1, hy1⟩ : ∃ y1 : Int, y1 = (shE b).1 := ⟨_, rfl⟩
  have hf : flV ((shE b).1, (shE b).2) = .agg #[.int .i64 y0, .int .i64 y1] := by rw [hy0, hy1]; rfl
  have hy1n : y1 ≠ 0 := by rw [hy1]; exact he
  rw [hf]
  have hrow : (w.alloc (.cells #[.int .i64 0, .int .i64 0] 31)).heap[w.heap.size]? = some (.cells #[.int .i64 0, .int .i64 0] 31 (0, 0)) := heap_alloc_new w _
  have hB0 := (Below.refl w.heap.size w).alloc (Nat.le_refl _) (.cells #[.int .i64 0, .int .i64 0] 31)
  have hhd := rhead_calls _ a c b (hs.keep hB0)
  rw [hf, hx] at hhd
  have HH := Lib.hid hhd
  have HROW := Lib.hid hrow
  have HB0 := Lib.hid hB0
  have e1 : (y1 != 0) = true := by simp [hy1n]
  clear hhd hs hrow hB0 hx hf hy0 hy1 he hy1n
  go_enter Tryd.func7, Tryd.ntmps7
  go_upto_region 2 with (go_at_call 19; (with_reducible refine HH.out.mono ?_); rintro e w1 ⟨rfl, hb⟩; (have HR1 := Lib.hid ((hb.block w.heap.size (lt_of_block HROW.out)).trans HROW.out)); (have HB1 := Lib.hid (HB0.out.trans (hb.mono HB0.out.size))); clear hb)
  have hr3 : ((w1.alloc (.cells #[.int .i64 x0, .int .i64 x1, .int .i64 x2, .int .i64 x3] 35)).alloc (.cells #[.int .i64 y0, .int .i64 y1] 31)).heap[w.heap.size]? = some (.cells #[.int .i64 0, .int .i64 0] 31 (0, 0)) := (Below.heap_alloc _ _ _ (by have := lt_of_block HR1.out; simp; omega)).trans ((Below.heap_alloc _ _ _ (lt_of_block HR1.out)).trans HR1.out)
  have hr5 : ((w1.alloc (.cells #[.int .i64 x0, .int .i64 x1, .int .i64 x2, .int .i64 x3] 35)).alloc (.cells #[.int .i64 y0, .int .i64 y1] 31)).heap[w1.heap.size + 1]? = some (.cells #[.int .i64 y0, .int .i64 y1] 31 (0, 0)) := by
    have := heap_alloc_new (w1.alloc (.cells #[.int .i64 x0, .int .i64 x1, .int .i64 x2, .int .i64 x3] 35)) (.cells #[.int .i64 y0, .int .i64 y1] 31)
    simpa using this
  have hb3 : Below w.heap.size w ((w1.alloc (.cells #[.int .i64 x0, .int .i64 x1, .int .i64 x2, .int .i64 x3] 35)).alloc (.cells #[.int .i64 y0, .int .i64 y1] 31)) := (HB1.out.alloc HB1.out.size _).alloc (by have := HB1.out.size; simp; omega) _
  have hlt := lt_of_block HR1.out
  generalize (w1.alloc (.cells #[.int .i64 x0, .int .i64 x1, .int .i64 x2, .int .i64 x3] 35)).alloc (.cells #[.int .i64 y0, .int .i64 y1] 31) = w2 at hr3 hr5 hb3 ⊢
  generalize hg5 : w1.heap.size + 1 = g5 at hr5 ⊢
  generalize hg : w.heap.size = g at hr3 hlt ⊢
  have m1 : w2.cell? ⟨g5, 1, none⟩ = some (.int .i64 y1) := cell_of_row w2 g5 1 _ _ _ hr5
  have HR3 := Lib.hid hr3
  have HR5 := Lib.hid hr5
  have HB3 := Lib.hid hb3
  have HG := Lib.hid hg
  have HNE := Lib.hid (show g5 ≠ g by omega)
  clear hr3 hr5 hb3 hg hg5 hlt HR1 HB1
  go_upto_region 3 with fail
  refine wh_startN (S := fun W => W.heap[g5]? = some (.cells #[.int .i64 y0, .int .i64 y1] 31 (0, 0))) 3 rfl (by kernel_rfl) ?_
  refine wh_takeD 0 25 (.agg #[.int .i64 y0, .int .i64 y1]) rfl rfl rfl (by kernel_rfl) (by kernel_rfl) (by kernel_rfl) (fun _ _ _ _ h => h) HR5.out (fun w' h => by exact run_load_row 31 _ rfl g5 rfl 31 _ _ _ w' h Tryd.underlying31 rfl HI2.out) ?_
  refine wh_takeD 1 2 (.slice none 0 0) rfl rfl rfl (by kernel_rfl) (by kernel_rfl) (by kernel_rfl) (fun _ _ _ _ h => h) HR5.out (fun w' h => by simp [go_sem]) ?_
  refine wh_skipD 2 (w' := w2.drew.setRow g #[.int .i64 y0, .int .i64 y1]) rfl rfl rfl (by kernel_rfl) (by exact run_store_rowO 31 _ _ rfl g _ (by simp [go_sem]) (by simp [go_sem]) 31 _ HR3.out HI2.out rfl (by simp [Value.oneCell'])) ((setRow_other _ _ _ _ HNE.out).trans HR5.out) ?_
  refine wpAnyH_done (by kernel_rfl) ?_ 0
  have hfin := setRow_heap w2.drew g _ #[.int .i64 y0, .int .i64 y1] _ _ HR3.out
  have hbf : Below w.heap.size w (w2.drew.setRow g #[.int .i64 y0, .int .i64 y1]) := below_setRow (Below.drew HB3.out) (Nat.le_of_eq HG.out) _
  generalize w2.drew.setRow g #[.int .i64 y0, .int .i64 y1] = w5 at hfin hbf ⊢
  have HX := Lib.hid hfin
  have HBF := Lib.hid hbf
  clear hfin hbf m1
  simp only [go_sem, List.setIfInBounds_toArray, List.set_cons_succ, List.set_cons_zero]
  go_wp2
  refine bodyPost_ret (results_tcO rfl _ _ g _ _ _ _ rfl HX.out Tryd.underlying31 rfl HI2.out) rfl ⟨_, rfl, HBF.out⟩
end Go.Proofs.YtjgcmnppiaikcaaDoor
