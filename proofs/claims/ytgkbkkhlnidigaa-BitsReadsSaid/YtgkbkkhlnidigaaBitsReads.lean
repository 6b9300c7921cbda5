/- BitsReads: two cursors in turns. -/
import Derived.Test.YtgkbkkhlnidigaaBitsRdI
import Derived.Test.YtgkbkkhlnidigaaStep
import Derived.Deep.RegionHeld3
import Derived.Deep.DeepCutAuto
namespace Go.Proofs.Ytgkbkkhlnidigaa
open Go.RowKit Go.Tk
set_option maxRecDepth 100000 in
set_option maxHeartbeats 16000000 in
theorem reads_calls (W : World) (xa : Option Addr) (xn xc : Nat) (za : List Int) (ya : Option Addr) (yn yc : Nat) (zb : List Int) (oa : Option Addr) (on oc : Nat) (ops : Nat → OpV) (hx : SlI .u8 W xa xn xc za) (hy : SlI .u8 W ya yn yc zb) (h : OpsAt W oa on oc ops)
    (hxn : xn ≤ 140737488351232) (hyn : yn ≤ 140737488351232) (hx0 : xa = none → xc = 0) (hy0 : ya = none → yc = 0) (hxb : ∀ x, xa = some x → x.block < W.heap.size) (hyb : ∀ x, ya = some x → x.block < W.heap.size) (hza : ∀ x ∈ za, 0 ≤ x ∧ x < 256) (hzb : ∀ x ∈ zb, 0 ≤ x ∧ x < 256) :
    Calls Try.prog 6 #[.slice xa xn xc, .slice ya yn yc, .slice oa on oc] W fun e w' => e = .returned (.bool true) ∧ Below W.heap.size W w' := by
  have HX0 := Lib.hid hx0
  have HY0 := Lib.hid hy0
  have HZA := Lib.hid hza
  have HXB := Lib.hid hxb
  have HYB := Lib.hid hyb
  have HZB := Lib.hid hzb
  have HX := Lib.hid hx
  have HY := Lib.hid hy
  have HO := Lib.hid h
  obtain rfl : za.length = xn := hx.len
  obtain rfl : zb.length = yn := hy.len
  have mx := hx.max
  have my := hy.max
  have mo := h.max
  have lx := hx.le
  have ly := hy.le
  have lo := h.le
  clear hx0 hy0 hxb hyb hza hzb hx hy h
  go_enter Try.func6, Try.ntmps6
  go_wp2_with (first
    | (go_at_call_of 11 (Value.slice xa za.length xc); refine (copied_calls _ _ _ _ za HX.out hxn).mono ?_; rintro e w1 ⟨rfl, fr⟩; have ow1 := fr.row.ow (Nat.le_refl _) (by omega); have k1 := Kept.none_of_below fr.below; have z1 := k1.size; clear fr; have tok1 : True := trivial)
    | (at_builtin
       have _t := tok1
       refine wpList_appJ rfl (.tmp 14) (.tmp 15) _ rfl .u8 W.heap.size 5 _ 1 Try.underlying22 Try.infoU8 rfl _ za rfl (ow1.alloc _) _ 2 2 [3, 3] rfl (SlI.two _ _ _ _ _) (by simp) (by omega) (by omega) (by simp; omega) ?_
       intro v2 w2 ow2 hg2 st2
       have k2 : Kept (fun _ => False) W w2 := (k1.alloc _).trans (Kept.of_grown hg2) (fun i hi => .inr (ow1.lt i hi).1)
       obtain ⟨va, vc, rfl, s2, _⟩ := ow2.sl
       have el : (za ++ [(3:Int), 3]).length = za.length + 2 := by simp
       rw [el] at ow2 s2 ⊢
       have EL := Lib.hid el
       have z2 := k2.size
       clear ow1 hg2 st2 k1 z1 tok1 el _t)
    | (go_at_call_of 11 (Value.slice ya zb.length yc); refine (copied_calls _ _ _ _ zb (HY.out.kept k2 (fun _ _ h => h)) hyn).mono ?_; rintro e w3 ⟨rfl, fr⟩; have ow3 := fr.row.ow (Nat.le_refl _) (by omega); have k3 := Kept.none_of_below fr.below; have z3 := k3.size; clear fr)
    | (at_builtin
       refine wpList_appJ rfl (.tmp 18) (.tmp 19) _ rfl .u8 w2.heap.size 5 _ 1 Try.underlying22 Try.infoU8 rfl _ zb rfl (ow3.alloc _) _ 2 2 [4, 4] rfl (SlI.two _ _ _ _ _) (by simp) (by omega) (by omega) (by simp; omega) ?_
       intro v4 w4 ow4 hg4 st4
       have k4 : Kept (fun _ => False) w2 w4 := (k3.alloc _).trans (Kept.of_grown hg4) (fun i hi => .inr (ow3.lt i hi).1)
       obtain ⟨vb, vd, rfl, s4, _⟩ := ow4.sl
       have el : (zb ++ [(4:Int), 4]).length = zb.length + 2 := by simp
       rw [el] at ow4 s4 ⊢
       have EM := Lib.hid el
       have z4 := k4.size
       clear ow3 hg4 st4 k3 z3 el))
  have n5 : (w4.alloc (.cells #[.slice va (za.length + 2) vc, .slice vb (zb.length + 2) vd] 57)).heap[w4.heap.size]? = some (.cells #[.slice va (za.length + 2) vc, .slice vb (zb.length + 2) vd] 57 (0, 0)) := by show (w4.heap.push _)[_]? = _; rw [Array.getElem?_push, if_pos rfl]
  have k5 : Kept (fun _ => False) w4 (w4.alloc (.cells #[.slice va (za.length + 2) vc, .slice vb (zb.length + 2) vd] 57)) := (Kept.refl _ w4).alloc _
  have l5 : w4.heap.size < (w4.alloc (.cells #[.slice va (za.length + 2) vc, .slice vb (zb.length + 2) vd] 57)).heap.size := by simp
  go_upto_region 2 with fail
  generalize w4.alloc (.cells #[.slice va (za.length + 2) vc, .slice vb (zb.length + 2) vd] 57) = w5 at *
  have ml2 := s2.le
  have ml4 := s4.le
  have mm2 := s2.max
  have mm4 := s4.max
  have HS2 := Lib.hid s2
  have HS4 := Lib.hid s4
  have HOW2 := Lib.hid ow2
  have HOW4 := Lib.hid ow4
  have HK2 := Lib.hid k2
  have HK4 := Lib.hid k4
  have HK5 := Lib.hid k5
  have HN5 := Lib.hid n5
  clear s2 s4 ow2 ow4 k2 k4 k5 n5
  go_cut [8] (fun s8 wx => TwoNew w5 60 (newC va za.length vc) (newC vb zb.length vd) s8 wx)
  case first =>
    have ca : w5.cell? ⟨w4.heap.size, 0, none⟩ = some (.slice va (za.length + 2) vc) := by rw [cell_of_row w5 _ 0 _ _ _ HN5.out]; rfl
    have cb : w5.cell? ⟨w4.heap.size, 1, none⟩ = some (.slice vb (zb.length + 2) vd) := by rw [cell_of_row w5 _ 1 _ _ _ HN5.out]; rfl
    have ea := World.new_ne _ _ ca
    have eb := World.new_ne _ _ cb
    have i0 : (0 : Int) ≤ (za.length : Int) := by omega
    have i1 : (za.length : Int) ≤ (vc : Int) := by omega
    have i2 : (0 : Int) ≤ (zb.length : Int) := by omega
    have i3 : (zb.length : Int) ≤ (vd : Int) := by omega
    go_region_held3 (fun w' => w'.cell? ⟨w4.heap.size, 0, none⟩ = some (.slice va (za.length + 2) vc) ∧ w'.cell? ⟨w4.heap.size, 1, none⟩ = some (.slice vb (zb.length + 2) vd)) (simp (maxDischargeDepth := 12) [*, World.cell?_alloc_some])
      (first
        | (go_at_call_of 23 (Value.slice va za.length vc); refine (read_eq _ va za.length vc).mono ?_; rintro e w' ⟨rfl, rfl⟩)
        | (go_at_call_of 23 (Value.slice vb zb.length vd); refine (read_eq _ vb zb.length vd).mono ?_; rintro e w' ⟨rfl, rfl⟩))
    · obtain ⟨n1, n2, n3, hb⟩ := three_new w5 (newC va za.length vc) (newC vb zb.length vd) (.cells #[.pointer (some ⟨w5.heap.size, 0, none⟩), .pointer (some ⟨w5.heap.size + 1, 0, none⟩)] 60)
      go_wp2_with fail
      go_meet
      exact ⟨_, _, _, rfl, n3, n1, n2, by omega, by omega, by omega, by omega, by omega, by omega, hb⟩
    · obtain ⟨n1, n2, n3, hb⟩ := three_new w5 (newC va za.length vc) (.cells #[.pointer (some ⟨w5.heap.size, 0, none⟩), .pointer (some ⟨w5.heap.size + 1 + 1, 0, none⟩)] 60) (newC vb zb.length vd)
      go_wp2_with fail
      go_meet
      exact ⟨_, _, _, rfl, n2, n1, n3, by omega, by omega, by omega, by omega, by omega, by omega, hb⟩
    · obtain ⟨n1, n2, n3, hb⟩ := three_new w5 (.cells #[.pointer (some ⟨w5.heap.size + 1, 0, none⟩), .pointer (some ⟨w5.heap.size + 1 + 1, 0, none⟩)] 60) (newC va za.length vc) (newC vb zb.length vd)
      go_wp2_with fail
      go_meet
      exact ⟨_, _, _, rfl, n1, n2, n3, by omega, by omega, by omega, by omega, by omega, by omega, hb⟩
  case rest =>
    rename World => w6
    obtain ⟨g, p1, p2, rfl, hg, hp1, hp2, g0, g1, g2, d12, dg1, dg2, hbx⟩ := hcut
    have cg0 : w6.cell? ⟨g, 0, none⟩ = some (.pointer (some ⟨p1, 0, none⟩)) := by rw [cell_of_row w6 g 0 _ _ _ hg]; rfl
    have cg1 : w6.cell? ⟨g, 1, none⟩ = some (.pointer (some ⟨p2, 0, none⟩)) := by rw [cell_of_row w6 g 1 _ _ _ hg]; rfl
    have HP1 := Lib.hid hp1
    have HP2 := Lib.hid hp2
    have HG := Lib.hid hg
    clear hp1 hp2 hg
    go_wp2_with fail
    have T := three_new w6 (.cells #[.slice xa za.length xc, .int .i64 0, .int .i64 0] 63) (.cells #[.slice ya zb.length yc, .int .i64 0, .int .i64 0] 63) (.cells #[.pointer (some ⟨w6.heap.size, 0, none⟩), .pointer (some ⟨w6.heap.size + 1, 0, none⟩)] 64)
    obtain ⟨t1, t2, t3, tb⟩ := T
    have hgl := (Array.getElem?_eq_some_iff.1 HG.out).1
    have hp1l := (Array.getElem?_eq_some_iff.1 HP1.out).1
    have hp2l := (Array.getElem?_eq_some_iff.1 HP2.out).1
    have k6 : Kept (fun _ => False) w5 w6 := Kept.none_of_below hbx
    have k7 : Kept (fun _ => False) w6 (((w6.alloc (.cells #[.slice xa za.length xc, .int .i64 0, .int .i64 0] 63)).alloc (.cells #[.slice ya zb.length yc, .int .i64 0, .int .i64 0] 63)).alloc (.cells #[.pointer (some ⟨w6.heap.size, 0, none⟩), .pointer (some ⟨w6.heap.size + 1, 0, none⟩)] 64)) := ⟨tb.os, tb.tape, tb.output, tb.size, fun i hi _ => tb.block i hi⟩
    clear tb
    generalize ((w6.alloc (.cells #[.slice xa za.length xc, .int .i64 0, .int .i64 0] 63)).alloc (.cells #[.slice ya zb.length yc, .int .i64 0, .int .i64 0] 63)).alloc (.cells #[.pointer (some ⟨w6.heap.size, 0, none⟩), .pointer (some ⟨w6.heap.size + 1, 0, none⟩)] 64) = w7 at *
    have I0 : RdI W ⟨w4.heap.size, g, w6.heap.size + 1 + 1, p1, p2, w6.heap.size, w6.heap.size + 1, va, vc, vb, vd, xa, xc, ya, yc, za, zb⟩ w7 0 0 0 0 := by
      have s2 := HS2.out
      have s4 := HS4.out
      have o2 := HOW2.out
      have o4 := HOW4.out
      have K27 : Kept (fun _ => False) w2 w7 := ((HK4.out.trans HK5.out (fun _ h => h.elim)).trans k6 (fun _ h => h.elim)).trans k7 (fun _ h => h.elim)
      have K47 : Kept (fun _ => False) w4 w7 := (HK5.out.trans k6 (fun _ h => h.elim)).trans k7 (fun _ h => h.elim)
      have KW7 : Kept (fun _ => False) W w7 := HK2.out.trans K27 (fun _ h => h.elim)
      have z5 := HK5.out.size
      have z6 := k6.size
      have bl2 : ∀ x, va = some x → x.block < w2.heap.size := fun x hx => (o2.lt x.block (by rw [hx]; rfl)).2
      have bl4 : ∀ x, vb = some x → x.block < w4.heap.size := fun x hx => (o4.lt x.block (by rw [hx]; rfl)).2
      have e2 : (za ++ [(3:Int), 3]).take za.length = za := by simp
      have e4 : (zb ++ [(4:Int), 4]).take zb.length = zb := by simp
      have r2 := s2.pre za.length (by omega)
      have r4 := s4.pre zb.length (by omega)
      rw [e2] at r2
      rw [e4] at r4
      have xb := HXB.out
      have yb := HYB.out
      refine ⟨⟨⟨k7.lt_some HP1.out id, r2.kept K27 (fun _ _ => id), fun e => by subst e; exact o2.nil_cap, fun x hx => ?_, Nat.zero_le _⟩, ⟨t1, HX.out.kept KW7 (fun _ _ => id), HX0.out, fun x hx => ?_, Nat.zero_le _⟩, ?_, fun x hx => ?_, fun x hx => ?_⟩,
        ⟨⟨k7.lt_some HP2.out id, r4.kept K47 (fun _ _ => id), fun e => by subst e; exact o4.nil_cap, fun x hx => ?_, Nat.zero_le _⟩, ⟨t2, HY.out.kept KW7 (fun _ _ => id), HY0.out, fun x hx => ?_, Nat.zero_le _⟩, ?_, fun x hx => ?_, fun x hx => ?_⟩,
        (k6.trans k7 (fun _ h => h.elim)).lt_some HN5.out id, k7.lt_some HG.out id, t3, o2.kept2 K27 (fun _ _ => id), (o4.mono (by omega)).kept2 K47 (fun _ _ => id), KW7.below (Nat.le_refl _) (fun _ h => h.elim), ?_, ?_, ?_, fun x hx => ?_, fun x hx => ?_, xb, yb, ?_, ?_⟩
      all_goals (try have sx := HK2.out.size)
      all_goals (try have sy := HK4.out.size)
      all_goals (try unfold N4)
      all_goals (try dsimp only)
      all_goals (try dsimp only at hx)
      · have := bl2 x hx; omega
      · have := xb x hx; omega
      · omega
      · have := bl2 x hx; omega
      · have := xb x hx; omega
      · have := bl4 x hx; omega
      · have := yb x hx; omega
      · omega
      · have := bl4 x hx; omega
      · have := yb x hx; omega
      · refine ⟨?_, ?_, ?_, ?_⟩ <;> omega
      · refine ⟨?_, ?_, ?_, ?_⟩ <;> omega
      · refine ⟨?_, ?_, ?_, ?_⟩ <;> omega
      · have := bl2 x hx; refine ⟨?_, ?_, ?_, ?_⟩ <;> omega
      · have := bl4 x hx; refine ⟨?_, ?_, ?_, ?_⟩ <;> omega
      · refine ⟨?_, ?_, ?_, ?_⟩ <;> omega
      · refine ⟨?_, ?_, ?_, ?_⟩ <;> omega
    clear k6 k7 t1 t2 t3 hbx hgl hp1l hp2l g0 g1 g2 d12 dg1 dg2 cg0 cg1
    generalize w6.heap.size + 1 + 1 = g9 at *
    generalize w6.heap.size + 1 = q2 at *
    generalize w6.heap.size = q1 at *
    generalize w4.heap.size = g7 at *
    go_loopw [10] (fun i wr => ∃ (j i1 i2 : Nat) (e1 e2 : Int), i = .int .i64 j ∧ j ≤ on ∧ RdI W ⟨g7, g, g9, p1, p2, q1, q2, va, vc, vb, vd, xa, xc, ya, yc, za, zb⟩ wr i1 e1 i2 e2) (fun i _ => on + 1 - (intOf i).toNat)
    case atStart => exact ⟨0, 0, 0, 0, 0, rfl, by omega, I0⟩
    case round =>
      obtain ⟨j, i1, i2, e1, e2, rfl, hj, hI0⟩ := hrel
      go_wp2
      go_loopw [11] (fun i wr => ∃ k : Nat, i = .int .i64 k ∧ k ≤ 2 ∧ RdI W ⟨g7, g, g9, p1, p2, q1, q2, va, vc, vb, vd, xa, xc, ya, yc, za, zb⟩ wr i1 e1 i2 e2) (fun i _ => 2 - (intOf i).toNat)
      case atStart => exact ⟨0, rfl, by omega, hI0⟩
      case round =>
        obtain ⟨k, rfl, hk2, hI⟩ := hrel
        clear hI0
        by_cases h2 : k = 2
        · subst h2
          by_cases hm : j < on
          · obtain ⟨b, o, rfl, hop⟩ := HO.out.at_ j hm
            generalize ops j = opv at *
            have hop' := hop.below hI.bel
            have c0 := hop'.c0
            have c1 := hop'.c1
            have c2 := hop'.c2
            have c3 := hop'.c3
            have c4 := hop'.c4
            clear hop'
            cases e : opv.two with
            | false =>
              rw [e] at c4
              have E' := Lib.hid e
              clear e
              have ca : wr.cell? ⟨g, 0, none⟩ = some (.pointer (some ⟨p1, 0, none⟩)) := hI.cells.a0
              have cb : wr.cell? ⟨g9, 0, none⟩ = some (.pointer (some ⟨q1, 0, none⟩)) := hI.cells.b0
              go_wp2_with fail
              refine wp_region_quiet_tail (fun w' => ∃ n, w' = World.drewN wr n) 10 (by kernel_rfl) (by kernel_rfl) ⟨1, rfl⟩ ?_
              simp only [List.take_succ_cons, List.take_zero, List.drop_succ_cons, List.drop_zero]
              repeat (go_big_quiet_step (fail))
              refine wpQuiet_nil ?_
              rintro _ ⟨n1, rfl⟩
              have sz := (hI.drewN n1).bel.size
              have hwc := read_calls (wr.drewN n1) p1 q1 va vc xa xc za i1 e1 (hI.A.drewN n1) (by omega) (fun x hx => Nat.lt_of_lt_of_le (HXB.out x hx) sz) (fun x hx => (((hI.drewN n1).o1.lt x.block (by subst hx; rfl)).2)) HZA.out opv hop.kr hop.nr hop.kkr
              rw [E'.out] at hwc
              go_wp2_with (go_at_call 27; refine hwc.mono ?_; rintro e w2 hw; obtain ⟨rfl, hI2⟩ := RdI.one (hI.drewN n1) hw; clear hw)
              go_roundw
              case rel => exact ⟨j + 1, _, _, _, _, by simp, by omega, hI2⟩
              case measure => simp [intOf]; omega
            | true =>
              rw [e] at c4
              have E' := Lib.hid e
              clear e
              have ca : wr.cell? ⟨g, 1, none⟩ = some (.pointer (some ⟨p2, 0, none⟩)) := hI.cells.a1
              have cb : wr.cell? ⟨g9, 1, none⟩ = some (.pointer (some ⟨q2, 0, none⟩)) := hI.cells.b1
              go_wp2_with fail
              refine wp_region_quiet_tail (fun w' => ∃ n, w' = World.drewN wr n) 10 (by kernel_rfl) (by kernel_rfl) ⟨1, rfl⟩ ?_
              simp only [List.take_succ_cons, List.take_zero, List.drop_succ_cons, List.drop_zero]
              repeat (go_big_quiet_step (fail))
              refine wpQuiet_nil ?_
              rintro _ ⟨n1, rfl⟩
              have sz := (hI.drewN n1).bel.size
              have hwc := read_calls (wr.drewN n1) p2 q2 vb vd ya yc zb i2 e2 (hI.B.drewN n1) (by omega) (fun x hx => Nat.lt_of_lt_of_le (HYB.out x hx) sz) (fun x hx => (((hI.drewN n1).o2.lt x.block (by subst hx; rfl)).2)) HZB.out opv hop.kr hop.nr hop.kkr
              rw [E'.out] at hwc
              go_wp2_with (go_at_call 27; refine hwc.mono ?_; rintro e w2 hw; obtain ⟨rfl, hI2⟩ := RdI.two (hI.drewN n1) hw; clear hw)
              go_roundw
              case rel => exact ⟨j + 1, _, _, _, _, by simp, by omega, hI2⟩
              case measure => simp [intOf]; omega
          · obtain rfl : j = on := by omega
            have hJ : RdI W ⟨g7, g, g9, p1, p2, q1, q2, va, vc, vb, vd, xa, xc, ya, yc, za, zb⟩ wr.drew i1 e1 i2 e2 := hI.drewN 1
            clear hI
            go_wp2_with fail
            first
              | go_region_held3 (fun w' => w'.cell? ⟨g, 0, none⟩ = some (.pointer (some ⟨p1, 0, none⟩)) ∧ w'.cell? ⟨g, 1, none⟩ = some (.pointer (some ⟨p2, 0, none⟩)) ∧ w'.cell? ⟨g9, 0, none⟩ = some (.pointer (some ⟨q1, 0, none⟩)) ∧ w'.cell? ⟨g9, 1, none⟩ = some (.pointer (some ⟨q2, 0, none⟩)) ∧
                    w'.cell? ⟨g7, 0, none⟩ = some (.slice va (za.length + 2) vc) ∧ w'.cell? ⟨g7, 1, none⟩ = some (.slice vb (zb.length + 2) vd))
                  (first | with_reducible exact hJ.six | with_reducible exact (hJ.keep ((Kept.refl _ _).alloc _)).six | with_reducible exact (hJ.keep kc).six | with_reducible exact (hJ.keep (kc.alloc _)).six | with_reducible exact ((hJ.keep ((Kept.refl _ _).alloc _)).keep kc).six)
                  (first
                    | (go_at_call_of 28 (Value.pointer (some (Addr.mk p1 0 none))); refine hJ.endA.mono ?_; clear hJ; rintro e' wa ⟨rfl, hJ⟩)
                    | (go_at_call_of 28 (Value.pointer (some (Addr.mk p2 0 none))); refine hJ.endB.mono ?_; clear hJ; rintro e' wa ⟨rfl, hJ⟩)
                    | (go_at_call_of 29 (Value.pointer (some (Addr.mk q1 0 none))); refine hJ.rendA.mono ?_; clear hJ; rintro e' wa ⟨rfl, hJ⟩)
                    | (go_at_call_of 29 (Value.pointer (some (Addr.mk q2 0 none))); refine hJ.rendB.mono ?_; clear hJ; rintro e' wa ⟨rfl, hJ⟩)
                    | (go_at_call 16; (first | (refine (hJ.sameA sA).mono ?_; clear hJ sA) | (refine (hJ.sameB sB).mono ?_; clear hJ sB)); rintro e' wa ⟨rfl, hJ⟩)
                    | (go_at_call_of 11 (Value.slice xa za.length xc)
                       first
                         | (with_reducible refine (RdI.copyA hJ hxn).mono ?_); rintro e' wc ⟨rfl, oc1, kc⟩
                         | (with_reducible refine (RdI.copyA (hJ.keep ((Kept.refl _ _).alloc _)) hxn).mono ?_); rintro e' wc ⟨rfl, oc2, kc⟩; rw [World.size_alloc] at oc2)
                    | (go_at_call_of 11 (Value.slice ya zb.length yc)
                       first
                         | (with_reducible refine (RdI.copyB hJ hyn).mono ?_); rintro e' wc ⟨rfl, oc1, kc⟩
                         | (with_reducible refine (RdI.copyB (hJ.keep ((Kept.refl _ _).alloc _)) hyn).mono ?_); rintro e' wc ⟨rfl, oc2, kc⟩; rw [World.size_alloc] at oc2)
                    | (refine step_appJ (by rfl) (.tmp 146) (.tmp 147) _ (by rfl) .u8 wa.heap.size 5 _ 1 Try.underlying22 Try.infoU8 rfl _ za (by rfl) (oc1.alloc _) ⟨wc.heap.size, 0, none⟩ 2 2 [3, 3] (by rfl) (SlI.two _ _ _ _ _) (by omega) (by omega) (by have := kc.size; simp; omega) ?_
                       intro v' wd ow' hg' st'; have kd : Kept (fun _ => False) wa wd := (kc.alloc _).trans (Kept.of_grown hg') (fun i hi => .inr (oc1.lt i hi).1); have hJ := hJ.keep kd; obtain ⟨va', vc', rfl, sA, _⟩ := ow'.sl; rw [EL.out] at sA ⊢; clear ow' hg' st' kd oc1 kc)
                    | (refine step_appJ (by rfl) (.tmp 146) (.tmp 147) _ (by rfl) .u8 _ 5 _ 1 Try.underlying22 Try.infoU8 rfl _ za (by rfl) oc2 ⟨wa.heap.size, 0, none⟩ 2 2 [3, 3] (by rfl) ((SlI.two _ _ _ _ _).kept kc (fun _ _ h => h)) (by omega) (by omega) (by have := kc.size; (try simp at this); omega) ?_
                       intro v' wd ow' hg' st'; have kd : Kept (fun _ => False) wa wd := (((Kept.refl _ wa).alloc _).trans kc (fun _ h => h.elim)).trans (Kept.of_grown hg') (fun i hi => .inr (by have := (oc2.lt i hi).1; (try simp at this); omega)); have hJ := hJ.keep kd; obtain ⟨va', vc', rfl, sA, _⟩ := ow'.sl; rw [EL.out] at sA ⊢; clear ow' hg' st' kd oc2 kc)
                    | (refine step_appJ (by rfl) (.tmp 155) (.tmp 156) _ (by rfl) .u8 wa.heap.size 5 _ 1 Try.underlying22 Try.infoU8 rfl _ zb (by rfl) (oc1.alloc _) ⟨wc.heap.size, 0, none⟩ 2 2 [4, 4] (by rfl) (SlI.two _ _ _ _ _) (by omega) (by omega) (by have := kc.size; simp; omega) ?_
                       intro v' wd ow' hg' st'; have kd : Kept (fun _ => False) wa wd := (kc.alloc _).trans (Kept.of_grown hg') (fun i hi => .inr (oc1.lt i hi).1); have hJ := hJ.keep kd; obtain ⟨va', vc', rfl, sB, _⟩ := ow'.sl; rw [EM.out] at sB ⊢; clear ow' hg' st' kd oc1 kc)
                    | (refine step_appJ (by rfl) (.tmp 155) (.tmp 156) _ (by rfl) .u8 _ 5 _ 1 Try.underlying22 Try.infoU8 rfl _ zb (by rfl) oc2 ⟨wa.heap.size, 0, none⟩ 2 2 [4, 4] (by rfl) ((SlI.two _ _ _ _ _).kept kc (fun _ _ h => h)) (by omega) (by omega) (by have := kc.size; (try simp at this); omega) ?_
                       intro v' wd ow' hg' st'; have kd : Kept (fun _ => False) wa wd := (((Kept.refl _ wa).alloc _).trans kc (fun _ h => h.elim)).trans (Kept.of_grown hg') (fun i hi => .inr (by have := (oc2.lt i hi).1; (try simp at this); omega)); have hJ := hJ.keep kd; obtain ⟨va', vc', rfl, sB, _⟩ := ow'.sl; rw [EM.out] at sB ⊢; clear ow' hg' st' kd oc2 kc))
              | fail
            all_goals go_wp2
            all_goals go_ret
            all_goals exact ⟨rfl, hJ.bel⟩
        · by_cases h1 : k = 1
          · subst h1
            have ca : wr.cell? ⟨g, 1, none⟩ = some (.pointer (some ⟨p2, 0, none⟩)) := hI.cells.a1
            have cb : wr.cell? ⟨g9, 1, none⟩ = some (.pointer (some ⟨q2, 0, none⟩)) := hI.cells.b1
            have r0 : wr.cell? ⟨q2, 0, none⟩ = some (.slice ya zb.length _) := hI.B.R.c0
            have r1 : wr.cell? ⟨q2, 1, none⟩ = some (.int .i64 i2) := hI.B.R.c1
            have r2 : wr.cell? ⟨q2, 2, none⟩ = some (.int .i64 e2) := hI.B.R.c2
            have li : i2 ≤ zb.length := hI.B.R.le
            have ew : IntKind.i64.wrap ((zb.length : Int) - (i2 : Int)) = (zb.length : Int) - (i2 : Int) := by rw [IntKind.wrap_i64]; omega
            have qa := fun n => quiet_eq (at_calls (World.drewN wr n) p2 _ _ zb i2 e2 (hI.B.C.drewN n))
            have ql := fun n => quiet_draw (left_calls (World.drewN wr n) p2 _ _ zb i2 e2 (hI.B.C.drewN n))
            have qe := fun n => quiet_eq (err_calls (World.drewN wr n) p2 _ _ zb i2 e2 (hI.B.C.drewN n))
            go_wp2_with fail
            go_quiet ((first
              | (go_at_call 24; with_reducible exact qa _)
              | (go_at_call 25; with_reducible exact ql _)
              | (go_at_call 26; with_reducible exact qe _)))
            go_wp2
            go_roundw
            case rel => exact ⟨1 + 1, by simp, by omega, hI.drewN _⟩
            case measure => simp [intOf]
          · obtain rfl : k = 0 := by omega
            have ca : wr.cell? ⟨g, 0, none⟩ = some (.pointer (some ⟨p1, 0, none⟩)) := hI.cells.a0
            have cb : wr.cell? ⟨g9, 0, none⟩ = some (.pointer (some ⟨q1, 0, none⟩)) := hI.cells.b0
            have r0 : wr.cell? ⟨q1, 0, none⟩ = some (.slice xa za.length _) := hI.A.R.c0
            have r1 : wr.cell? ⟨q1, 1, none⟩ = some (.int .i64 i1) := hI.A.R.c1
            have r2 : wr.cell? ⟨q1, 2, none⟩ = some (.int .i64 e1) := hI.A.R.c2
            have li : i1 ≤ za.length := hI.A.R.le
            have ew : IntKind.i64.wrap ((za.length : Int) - (i1 : Int)) = (za.length : Int) - (i1 : Int) := by rw [IntKind.wrap_i64]; omega
            have qa := fun n => quiet_eq (at_calls (World.drewN wr n) p1 _ _ za i1 e1 (hI.A.C.drewN n))
            have ql := fun n => quiet_draw (left_calls (World.drewN wr n) p1 _ _ za i1 e1 (hI.A.C.drewN n))
            have qe := fun n => quiet_eq (err_calls (World.drewN wr n) p1 _ _ za i1 e1 (hI.A.C.drewN n))
            go_wp2_with fail
            go_quiet ((first
              | (go_at_call 24; with_reducible exact qa _)
              | (go_at_call 25; with_reducible exact ql _)
              | (go_at_call 26; with_reducible exact qe _)))
            go_wp2
            go_roundw
            case rel => exact ⟨0 + 1, by simp, by omega, hI.drewN _⟩
            case measure => simp [intOf]
end Go.Proofs.Ytgkbkkhlnidigaa
