/- The document's Build of quads. -/
import Derived.Test.YtgajpekolamjbaaTrH
import Derived.Test.YtgajpekolamjbaaTrF
import Derived.Test.YtgajpekolamjbaaTxA
import Derived.Test.YtgajpekolamjbaaBitsBuf3
set_option linter.unusedVariables false
set_option linter.unusedSimpArgs false
namespace Go.Tk
open Go Go.RowKit
theorem run_appJN {P : Program} {w : World} {o : Oper} {a : Act} (s x : Operand) (t : TypeId)
    (ho : o.op = .call { callee := .builtin .append, args := #[s, x], argTypes := #[t, t] })
    (k : IntKind) (base : Nat) (e : TypeId) (z : Value) (bytes : Nat) (ht : P.underlying t = some (.slice e)) (hinfo : (P.info? e).map (fun i => (i.zero, i.size, i.bytes)) = some (some z, 1, bytes)) (hzs : z.cells.size = 1)
    (v : Value) (zs : List Int) (hs : a.eval s = v) (hown : Ow k e base w v zs)
    (ad : Addr) (m c : Nat) (ns : List Int) (hx : a.eval x = .slice (some ad) m c) (hg : SlI k w (some ad) m c ns)
    (h63 : zs.length + m ≤ 9223372036854775807) (hbytes : (zs.length + m) * bytes ≤ 140737488355328) (hbase : base ≤ w.heap.size) :
    ∃ v' w', (execOp a.eval o).run P w = .ok (.value v') w' ∧ (Ow k e base w' v' (zs ++ ns) ∧ w.grownBy w' v.ownBlock ∧ OwnStep w v v') := by
  obtain ⟨i, hi, hz0, hz1, hz2⟩ := info_parts hinfo
  have hm := hg.len
  obtain ⟨v', w', hr, h2, h3, h4⟩ := run_app (P := P) w base t o.type e i z 1 bytes ht hi hz0 hz1 hz2 hzs (by decide) v zs.length (zs.map (Value.int k)) hown ad m c (ns.map (Value.int k)) (by simp [hm]) (by
    intro j u hu
    simp only [List.getElem?_map, Option.map_eq_some_iff] at hu
    obtain ⟨y, hy, rfl⟩ := hu
    obtain ⟨hl, hy'⟩ := List.getElem?_eq_some_iff.1 hy
    obtain ⟨b', o', e', hc⟩ := hg.cell j (by omega)
    obtain rfl := Option.some.inj e'
    rw [Addr.add_lit, hc]
    simp [hl, hy']) (by
    intro u hu
    obtain ⟨y, _, rfl⟩ := List.mem_map.1 hu
    rfl) (by simpa [maxLen] using h63) hbytes hbase
  refine ⟨v', w', ?_, ?_, h3, h4⟩
  · simp [execOp, ho, resolve, invoke, builtin, hs, hx, hr, Result.andThen]
  · unfold Ow
    rw [List.length_append, List.map_append, hm]
    exact h2
theorem wh_callx {P : Program} {ops : Array Oper} {Q : Exit → Act → World → Prop} {md : Region.Mode} {S : World → Prop} (i : Nat) (R : Value → World → Prop) {o : Oper} {fuel : Nat} {listed : Array Bool} {a : Act} {w : World} {f : FuncId} {args : Array Value} (hi : ops[i]? = some o) (hg : o.guard = none) (hr : Region.ready md ops listed = [i])
    (he : (execOp a.eval o).run P w = .ok (.enter f args) w) (hc : Calls P f args w fun e w' => ∃ v, e = .returned v ∧ R v w') (hS : ∀ v w', R v w' → S w')
    (h : ∀ v w', R v w' → wpAnyH P md ops Q S fuel (listed.setIfInBounds i true) (a.put o.dst v) w') : wpAnyH P md ops Q S (fuel + 1) listed a w := by
  refine wpAnyH_all hr (by simp) fun j hj => ?_
  obtain rfl : j = i := by simpa using hj
  unfold Go.wpOp
  simp only [hi, wanted_free (ops := ops) (x := a.tmps) hg, if_true, Oper.wp, he, Oper.upon]
  refine .inl (hc.mono ?_)
  rintro e w' ⟨v, rfl, hR⟩
  exact ⟨hS v w' hR, h v w' hR⟩
theorem Ow.stay {k : IntKind} {e : TypeId} {base : Nat} {w w' : World} {v : Value} {zs : List Int} (h : Ow k e base w v zs) (hb : Below w.heap.size w w') : Ow k e base w' v zs := h.below hb (fun g hg => (h.lt g hg).2)
end Go.Tk
namespace Go.Proofs.Ytgajpekolamjbaa
open Go.RowKit Go.Tk
set_option maxRecDepth 100000 in
set_option maxHeartbeats 4000000 in
theorem rbuildT_calls (w : World) (a : Option Addr) (n c : Nat) (L : List Qd) (h : SlQ w a n c L) (most : Int) (hm : -9223372036854775808 ≤ most ∧ most ≤ 9223372036854775807) :
    Calls Try.prog 10 #[.slice a n c, .int .i64 most] w fun e w' => ∃ v, e = .returned (.tuple #[v, .int .i64 (buildTE L most)]) ∧ Ow .u8 5 w.heap.size w' v (buildTO L most) ∧ Below w.heap.size w w' := by
  have hle := h.le
  have hmx := h.max
  have HS := Lib.hid h
  have HL := Lib.hid h.len
  have SZ := Lib.hid Try.sizeIds
  have S8 := Lib.hid Try.size8d
  have hbad : ∀ E : Int, chkT L = E → E ≠ 0 → buildTE L most = E ∧ buildTO L most = [] := fun E h1 h2 => by
    have hbe : buildTE L most = E := by unfold buildTE; rw [h1, if_pos h2]
    exact ⟨hbe, by unfold buildTO; rw [hbe, if_neg h2]⟩
  have HBAD := Lib.hid hbad
  clear h hbad
  by_cases hbig : 1048576 < n
  · obtain ⟨hbe, hbo⟩ := HBAD.out 2 (by unfold chkT; rw [HL.out, if_pos hbig]) (by omega)
    have HBE := Lib.hid hbe
    have HBO := Lib.hid hbo
    have e1 : decide ((1048576 : Int) < (n : Int)) = true := decide_eq_true (by omega)
    clear hbe hbo
    go_enter Try.func10, Try.ntmps10
    go_wp2
    go_ret2
    exact ⟨_, by rw [HBE.out]; rfl, by rw [HBO.out]; exact Ow.nil _ _ _ _, Below.refl _ _⟩
  · go_enter Try.func10, Try.ntmps10
    go_wp2
    go_loopw [6] (fun iv wr => ∃ (i : Nat), iv = .int .i64 (i : Nat) ∧ i ≤ n ∧ (∀ j, j < i → okQ (L.getD j default) = true) ∧ Below w.heap.size w wr) (fun iv _ => n - (intOf iv).toNat)
    case atStart => exact ⟨0, rfl, Nat.zero_le _, (fun j hj => by omega), Below.refl _ _⟩
    case round =>
      rename World => wr
      obtain ⟨i, rfl, hi, hok, hbw⟩ := hrel
      have HOK := Lib.hid hok
      have HB := Lib.hid hbw
      have hzw := hbw.size
      clear hok hbw
      by_cases hlt : i < n
      · obtain ⟨b, o, rfl, hr⟩ := (HS.out.keep HB.out).cell i hlt
        obtain ⟨q, hq⟩ : ∃ q, q = L.getD i default := ⟨_, rfl⟩
        rw [← hq] at hr
        have HQ := Lib.hid hq
        have HR := Lib.hid hr
        obtain ⟨B, hB⟩ : ∃ B, B = okQ q := ⟨_, rfl⟩
        have HBB := Lib.hid hB
        clear hq hr hB
        cases B with
        | true =>
          go_wp2_with (first
            | (refine wpList_load_mid rfl 24 (.tmp 27) rfl b (o + i * 4) rfl (qcs q) _ HR.out Try.underlying24 rfl SZ.out ?_)
            | (go_at_call 45; refine (rright_calls _ q).mono ?_; rintro e w3 ⟨rfl, hb3⟩; rw [← HBB.out]; (have HB3 := Lib.hid (HB.out.trans (hb3.mono hzw))); clear hb3))
          refine ⟨⟨i + 1, by go_num, by omega, fun j hj => ?_, HB3.out⟩, by simp [intOf]; omega⟩
          by_cases hji : j = i
          · subst hji; rw [← HQ.out]; exact HBB.out.symm
          · exact HOK.out j (by omega)
        | false =>
          obtain ⟨hbe, hbo⟩ := HBAD.out 180 (by
            unfold chkT
            rw [if_neg (by rw [HL.out]; exact hbig), if_pos (bad_yes (i := i) (by rw [HL.out]; exact hlt) (by rw [← HQ.out]; exact HBB.out.symm))]) (by omega)
          have HBE := Lib.hid hbe
          have HBO := Lib.hid hbo
          clear hbe hbo
          go_wp2_with (first
            | (refine wpList_load_mid rfl 24 (.tmp 27) rfl b (o + i * 4) rfl (qcs q) _ HR.out Try.underlying24 rfl SZ.out ?_)
            | (go_at_call 45; refine (rright_calls _ q).mono ?_; rintro e w3 ⟨rfl, hb3⟩; rw [← HBB.out]; (have HB3 := Lib.hid (HB.out.trans (hb3.mono hzw))); clear hb3))
          go_ret2
          exact ⟨_, by rw [HBE.out]; rfl, by rw [HBO.out]; exact Ow.nil _ _ _ _, HB3.out⟩
      · obtain rfl : i = n := by omega
        have hbad : badQ L = false := bad_no (fun j hj => HOK.out j (by rw [← HL.out]; exact hj))
        have HBD := Lib.hid hbad
        clear hbad
        rename World => w0
        go_wp2_with fail
        go_loopw [8] (fun iv wr => ∃ (k : Nat), iv = .int .i64 (k : Nat) ∧ 1 ≤ k ∧ (k ≤ i ∨ k = 1) ∧ (∀ j, 0 < j → j < k → j < i → cmpQ (L.getD (j - 1) default) (L.getD j default) < 0) ∧ Below w.heap.size w wr) (fun iv _ => i + 1 - (intOf iv).toNat)
        case atStart => exact ⟨1, rfl, Nat.le_refl _, .inr rfl, (fun j h1 h2 => by omega), HB.out⟩
        case round =>
          rename World => wr
          obtain ⟨k, rfl, hk1, hk2, hr, hbw⟩ := hrel
          have HR := Lib.hid hr
          have HBW := Lib.hid hbw
          have hzx := hbw.size
          clear hr hbw
          by_cases hki : k < i
          · obtain ⟨b, o, rfl, hr1⟩ := HS.out.cell k hki
            obtain ⟨b', o', he', hr0⟩ := HS.out.cell (k - 1) (by omega)
            have hea : (⟨b, o, none⟩ : Addr) = ⟨b', o', none⟩ := Option.some.inj he'
            injection hea with e1 e2
            subst e1 e2
            obtain ⟨p, hp⟩ : ∃ p, p = L.getD (k - 1) default := ⟨_, rfl⟩
            obtain ⟨q, hq⟩ : ∃ q, q = L.getD k default := ⟨_, rfl⟩
            rw [← hp] at hr0
            rw [← hq] at hr1
            obtain ⟨k1, hk4⟩ : ∃ k1 : Nat, k1 = k - 1 := ⟨_, rfl⟩
            rw [← hk4] at hr0
            have hk5 : (k : Int) - 1 = (k1 : Int) := by omega
            have hk6 : k1 < i := by omega
            have hk7 : IntKind.i64.wrap (k1 : Int) = (k1 : Int) := by rw [IntKind.wrap_i64]; omega
            obtain ⟨cv, hcv⟩ : ∃ cv, cv = cmpQ p q := ⟨_, rfl⟩
            have HP := Lib.hid hp
            have HQ := Lib.hid hq
            have HR0 := Lib.hid hr0
            have HR1 := Lib.hid hr1
            have HCV := Lib.hid hcv
            clear hp hq hr0 hr1 hk4 hcv he'
            go_upto_region 12 with fail
            refine wp_region_quiet_tail (fun w' => Below w.heap.size w w') 10 (by kernel_rfl) (by kernel_rfl) HBW.out.drew ?_
            simp only [List.take_succ_cons, List.take_zero, List.drop_succ_cons, List.drop_zero]
            refine wq_val (.slice (some ⟨b, o, none⟩) i c) rfl (fun w' _ => by simp [go_sem]) ?_
            refine wq_val (.int .i64 (k : Nat)) rfl (fun w' _ => by simp [go_sem]) ?_
            refine wq_val (.int .i64 (k1 : Nat)) rfl (fun w' _ => by simp [go_sem, hk5, hk7]) ?_
            refine wq_val (.pointer (some ⟨b, o + k1 * 4, none⟩)) rfl (fun w' _ => by simp [go_sem, hk6]) ?_
            refine wq_mid rfl 24 (.tmp 41) rfl b (o + k1 * 4) (by simp [go_sem]) (qcs p) _ (fun w' h => range_keep HR0.out h) Try.underlying24 rfl SZ.out ?_
            refine wq_val (.slice (some ⟨b, o, none⟩) i c) rfl (fun w' _ => by simp [go_sem]) ?_
            refine wq_val (.int .i64 (k : Nat)) rfl (fun w' _ => by simp [go_sem]) ?_
            refine wq_val (.pointer (some ⟨b, o + k * 4, none⟩)) rfl (fun w' _ => by simp [go_sem, hki]) ?_
            refine wq_mid rfl 24 (.tmp 45) rfl b (o + k * 4) (by simp [go_sem]) (qcs q) _ (fun w' h => range_keep HR1.out h) Try.underlying24 rfl SZ.out ?_
            refine wq_call (.int .i64 cv) 25 #[qv p, qv q] rfl (fun w' => by simp [go_sem, qv, qcs]) (fun w' h => by rw [HCV.out]; exact (rcompare_calls w' p q).mono fun _ _ ⟨h1, h2⟩ => ⟨h1, h.trans (h2.mono h.size)⟩) ?_
            refine wpQuiet_nil ?_
            intro w' hw'
            have HW' := Lib.hid hw'
            clear hw'
            by_cases hc0 : 0 ≤ cv
            · have e0 : decide (0 ≤ cv) = true := decide_eq_true hc0
              have hri := riseQ_no (L := L) (i := k) (by omega) (by rw [HL.out]; exact hki) (by rw [← HP.out, ← HQ.out, ← HCV.out]; exact hc0)
              obtain ⟨hbe, hbo⟩ := HBAD.out 160 (by
                unfold chkT
                rw [if_neg (by rw [HL.out]; exact hbig), if_neg (by rw [HBD.out]; decide), if_neg (by rw [hri]; decide)]) (by omega)
              have HBE := Lib.hid hbe
              have HBO := Lib.hid hbo
              clear hri hbe hbo
              go_wp2_with fail
              go_ret2
              exact ⟨_, by rw [HBE.out]; rfl, by rw [HBO.out]; exact Ow.nil _ _ _ _, HW'.out⟩
            · have e0 : decide (0 ≤ cv) = false := decide_eq_false hc0
              have HC0 := Lib.hid hc0
              clear hc0
              go_wp2_with fail
              refine ⟨⟨k + 1, by go_num, by omega, by omega, fun j h1 h2 h3 => ?_, HW'.out⟩, by simp [intOf]; omega⟩
              by_cases hjk : j = k
              · subst hjk; rw [← HP.out, ← HQ.out, ← HCV.out]; have := HC0.out; omega
              · exact HR.out j h1 (by omega) h3
          · have hri := riseQ_yes (L := L) (fun j h1 h2 => HR.out j h1 (by rw [HL.out] at h2; omega) (by rw [HL.out] at h2; exact h2))
            have hc : chkT L = 0 := by
              unfold chkT
              rw [if_neg (by rw [HL.out]; exact hbig), if_neg (by rw [HBD.out]; decide), if_pos hri]
            have HR := Lib.hid (chk_right hc)
            have HC := Lib.hid hc
            have hn20 : i ≤ 1048576 := by omega
            have HSW := Lib.hid (HS.out.keep HBW.out)
            clear hri hc HB HBAD HBD HOK hzw hk1 hk2
            generalize wr = w1 at *
            go_upto_region 15 with (first
              | (go_at_call 46; refine (rlevels_calls _ _ _ _ _ HSW.out HR.out).mono ?_; rintro e w3 ⟨vs, rfl, ⟨b3, hrow⟩, hb3⟩; (have HROW := Lib.hid hrow); (have HB3 := Lib.hid hb3); (have HONES := Lib.hid hrow.ones); (have z3 := hb3.size); clear hrow hb3)
              | (refine wpList_store_new rfl 96 (.tmp 9) (.tmp 50) rfl nil8 #[vs 0, vs 1, vs 2, vs 3, vs 4, vs 5, vs 6, vs 7] rfl rfl S8.out rfl HONES.out ?_)
              | fail)
            obtain ⟨w4, hw4⟩ : ∃ w4, w4 = w3.alloc (.cells #[vs 0, vs 1, vs 2, vs 3, vs 4, vs 5, vs 6, vs 7] 96) := ⟨_, rfl⟩
            have hz4 : w4.heap.size = w3.heap.size + 1 := by rw [hw4]; simp
            have hb34 : Below w3.heap.size w3 w4 := by rw [hw4]; exact (Below.refl _ w3).alloc (Nat.le_refl _) _
            have hrow4 := HROW.out.below hb34
            have hbel4 : Below w.heap.size w w4 := (HBW.out.trans (HB3.out.mono hzx)).trans (hb34.mono (by omega))
            have harr : w4.heap[w3.heap.size]? = some (.cells #[vs 0, vs 1, vs 2, vs 3, vs 4, vs 5, vs 6, vs 7] 96 (0, 0)) := by rw [hw4]; exact heap_alloc_new _ _
            rw [← hw4]
            obtain ⟨b9, hb9⟩ : ∃ b9, b9 = w3.heap.size := ⟨_, rfl⟩
            rw [← hb9] at harr hz4 ⊢
            have hrowX : ∀ X, Below w4.heap.size w4 X → RowsD w1.heap.size X b3 vs (fun j => levN L j i) (lastB L) := fun X h => R8.below hrow4 h
            have hcellX : ∀ X, Below w4.heap.size w4 X → ∀ j, j < 8 → X.cell? ⟨b9, j, none⟩ = some (vs j) := fun X h j hj => by
              rw [cell_of_row X b9 j _ _ _ ((h.block b9 (by omega)).trans harr), eight_get vs hj]
            have ROW := Lib.hid hrowX
            have CELL := Lib.hid hcellX
            have HBEL4 := Lib.hid hbel4
            have hlev : ∀ j, (levN L j i).length ≤ i := fun j => levN_len L j i
            have hrng : ∀ j x, x ∈ levN L j i → 0 ≤ x ∧ x ≤ 4194304 := fun j => HR.out.num j i (by rw [HL.out]; exact Nat.le_refl _)
            have HLEV := Lib.hid hlev
            have HRNG := Lib.hid hrng
            have hz04 : w.heap.size ≤ w4.heap.size := hbel4.size
            clear hw4 hz4 hb34 hrow4 hbel4 harr hb9 hrowX hcellX hlev hrng HROW HB3 HBW HSW HONES z3 hzx
            go_wp2_with fail
            go_loopw [10, 11] (fun ov kv wx => ∃ (k : Nat), kv = .int .i64 (k : Nat) ∧ k ≤ 4 ∧ Ow .u8 5 w4.heap.size wx ov (headP L k) ∧ Below w4.heap.size w4 wx) (fun _ kv _ => 4 - (intOf kv).toNat)
            case atStart => exact ⟨0, rfl, Nat.zero_le _, Ow.nil _ _ _ _, Below.refl _ _⟩
            case round =>
              rename World => wx
              obtain ⟨k, rfl, hk, how, hbx⟩ := hrel
              obtain ⟨va, vc, rfl, _, _⟩ := how.sl
              have hhl := headP_len L k
              have HOW := Lib.hid how
              have HBX := Lib.hid hbx
              have hzx := hbx.size
              clear how hbx
              by_cases hk4 : k < 4
              · obtain ⟨na, nc, hnv, hns, _⟩ := (RowsD.num (ROW.out wx HBX.out) hk4).sl
                obtain ⟨ln, hln⟩ : ∃ ln, ln = (levN L k i).length := ⟨_, rfl⟩
                have hln2 : ln ≤ 1048576 := by rw [hln]; have := HLEV.out k; omega
                rw [← hln] at hnv
                have c0 := CELL.out wx HBX.out (2 * k) (by omega)
                rw [hnv, Nat.mul_comm] at c0
                have hhp : headP L (k + 1) = headP L k ++ vz (ln : Nat) := by simp only [headP]; rw [HL.out, ← hln]
                obtain ⟨zl, hzl⟩ : ∃ zl, zl = headP L k := ⟨_, rfl⟩
                rw [← hzl] at hhp hhl HOW ⊢
                have HHP := Lib.hid hhp
                have hwl : IntKind.u64.wrap (ln : Int) = (ln : Int) := by rw [IntKind.wrap_u64]; omega
                have hvl := vz_len (ln : Nat)
                clear hns hnv hln hhp hzl
                go_wp2_with (first
                  | (go_at_call 47; (refine (rvarint_calls wx (ln : Nat) (by omega) (by omega)).mono ?_; rintro e w5 hr; obtain ⟨v1, rfl, ow1, k1⟩ := hr; (have HOW1 := Lib.hid (HOW.out.kept2 k1 (fun _ _ h => h))); (have hv1 := ow1); obtain ⟨a1, c1, hvv, sl1, _⟩ := ow1.sl; obtain ⟨l1, hl1⟩ : ∃ l1, l1 = (vz (ln : Nat)).length := ⟨_, rfl⟩; rw [← hl1] at hvv sl1; subst hvv; (have hn1 : a1 = none → c1 = 0 := by rintro rfl; exact hv1.nil_cap); (have HN1 := Lib.hid hn1); (have SL1 := Lib.hid sl1); (have HB5 := Lib.hid (HBX.out.trans (Kept.below k1 hzx (fun _ h => h.elim)))); (have z5 := HB5.out.size); (have hl2 : l1 ≤ 10 := by omega); clear ow1 hv1 sl1 hn1 k1 hl1))
                  | (at_builtin; (refine wpList_appJ rfl (.tmp 55) (.tmp 62) _ rfl .u8 w4.heap.size 5 _ 1 Try.underlying25 Try.infoU8 rfl _ zl rfl HOW1.out _ _ _ _ rfl SL1.out HN1.out (by omega) (by omega) z5 ?_; intro v6 w6 ow6 hg6 st6; rw [← HHP.out] at ow6; (have OW6 := Lib.hid ow6); (have HB6 := Lib.hid (HB5.out.grown hg6 z5 (fun j hj => (HOW1.out.lt j hj).1))); clear ow6 hg6 st6)))
                exact ⟨⟨k + 1, by go_num, by omega, OW6.out, HB6.out⟩, by simp [intOf]; omega⟩
              · have hk44 : k = 4 := by omega
                have how := HOW.out
                rw [hk44] at how
                have how : Ow .u8 5 w4.heap.size wx (.slice va (headP L k).length vc) (secP L 0) := by rw [hk44]; exact how
                have HOW0 := Lib.hid how
                clear hk44 how HOW
                generalize hl0 : (headP L k).length = l0 at HOW0 ⊢
                clear hl0 hhl
                go_wp2_with fail
                go_loopw [10, 12] (fun ov kv wx => ∃ (k : Nat), kv = .int .i64 (k : Nat) ∧ k ≤ 4 ∧ Ow .u8 5 w4.heap.size wx ov (secP L k) ∧ Below w4.heap.size w4 wx) (fun _ kv _ => 4 - (intOf kv).toNat)
                case atStart => exact ⟨0, rfl, Nat.zero_le _, HOW0.out, HBX.out⟩
                case round =>
                  rename World => wx
                  obtain ⟨k, rfl, hk, how, hbx⟩ := hrel
                  obtain ⟨va, vc, rfl, _, _⟩ := how.sl
                  have hhl := secP_len HR.out.len k
                  have HOW := Lib.hid how
                  have HBX := Lib.hid hbx
                  have hzx := hbx.size
                  clear how hbx HOW0
                  by_cases hk4 : k < 4
                  · obtain ⟨na, nc, hnv, hns, _⟩ := (RowsD.num (ROW.out wx HBX.out) hk4).sl
                    obtain ⟨zs, hzs⟩ : ∃ zs, zs = levN L k i := ⟨_, rfl⟩
                    obtain ⟨ln, hln⟩ : ∃ ln, ln = zs.length := ⟨_, rfl⟩
                    have hln2 : ln ≤ 1048576 := by rw [hln, hzs]; have := HLEV.out k; omega
                    have hzr : ∀ x ∈ zs, 0 ≤ x ∧ x ≤ 4194304 := by rw [hzs]; exact HRNG.out k
                    have hzu : U64 zs := fun j hj => by
                      have := hzr (zs[j]) (List.getElem_mem hj)
                      have e : zs.getD j 0 = zs[j] := by simp [hj]
                      rw [e]; omega
                    have hwr := wd_range hzr
                    rw [← hzs, ← hln] at hnv hns
                    have hcX : ∀ X, Below w4.heap.size w4 X → X.cell? ⟨b9, k * 2, none⟩ = some (.slice na ln nc) := fun X h => by
                      have := CELL.out X h (2 * k) (by omega)
                      rw [hnv, Nat.mul_comm] at this; exact this
                    have hnX : ∀ X, Below w4.heap.size w4 X → SlI .u64 X na ln nc zs := fun X h => by
                      obtain ⟨na', nc', hnv', hns', _⟩ := (RowsD.num (ROW.out X h) hk4).sl
                      rw [← hzs, ← hln] at hnv' hns'
                      have e := hnv.symm.trans hnv'
                      injection e with e1 _ e3
                      rw [e1, e3]; exact hns'
                    obtain ⟨d, hd⟩ : ∃ d, d = packB (lastB L k) := ⟨_, rfl⟩
                    have hdl : d.length = (ln + 7) / 8 := by rw [hd, pack_len, lastB_len, HL.out, ← hzs, hln]
                    obtain ⟨ba, bc, hbv, hbs, hbn⟩ := (RowsD.bit (ROW.out wx HBX.out) hk4).sl
                    have hlb : (lastB L k).length = ln := by rw [lastB_len, HL.out, ← hzs, hln]
                    rw [hlb] at hbv hbs
                    have hcB : ∀ X, Below w4.heap.size w4 X → X.cell? ⟨b9, k * 2 + 1, none⟩ = some (.slice ba ln bc) := fun X h => by
                      have := CELL.out X h (2 * k + 1) (by omega)
                      rw [hbv, Nat.mul_comm] at this; exact this
                    have hbX : ∀ X, Below w4.heap.size w4 X → SlB X ba ln bc (lastB L k) := fun X h => by
                      obtain ⟨ba', bc', hbv', hbs', _⟩ := (RowsD.bit (ROW.out X h) hk4).sl
                      rw [hlb] at hbv' hbs'
                      have e := hbv.symm.trans hbv'
                      injection e with e1 _ e3
                      rw [e1, e3]; exact hbs'
                    obtain ⟨wd, hwd⟩ : ∃ wd, wd = wdL zs := ⟨_, rfl⟩
                    rw [← hwd] at hwr
                    obtain ⟨pk, hpk⟩ : ∃ pk, pk = packOut zs wd := ⟨_, rfl⟩
                    have hpkl : pk.length ≤ 8388609 := by rw [hpk]; have := packOut_len8 zs wd; omega
                    obtain ⟨pe, hpe⟩ : ∃ pe, pe = packErr zs wd := ⟨_, rfl⟩
                    obtain ⟨zl, hzl⟩ : ∃ zl, zl = secP L k := ⟨_, rfl⟩
                    have hs0 : k = 0 → secP L (k + 1) = (zl ++ [wd]) ++ pk := fun h => by
                      subst h
                      rw [hzl]
                      simp only [secP]
                      rw [secB_zero L i HL.out, ← hzs, hpk, hwd]; simp
                    have hs1 : k ≠ 0 → secP L (k + 1) = ((zl ++ [wd]) ++ pk) ++ nums (whB d ln) := fun h => by
                      rw [hzl]
                      simp only [secP]
                      rw [secB_pos L i k HL.out h, ← hzs, hpk, hwd, ← hln, hd]
                      simp
                    rw [← hzl] at hhl HOW ⊢
                    have hzll : zl.length ≤ 80000040 := by omega
                    have hu8 : IntKind.u8.wrap wd = wd := by rw [IntKind.wrap_u8]; omega
                    have c0 := hcX wx HBX.out
                    have HZR := Lib.hid hzr
                    have HZU := Lib.hid hzu
                    have HLN := Lib.hid hln
                    have HDL := Lib.hid hdl
                    have HD := Lib.hid hd
                    have HWD := Lib.hid hwd
                    have HPK := Lib.hid hpk
                    have HPE := Lib.hid hpe
                    have HS0 := Lib.hid hs0
                    have HS1 := Lib.hid hs1
                    have HCX := Lib.hid hcX
                    have HNX := Lib.hid hnX
                    have HCB := Lib.hid hcB
                    have HBLX := Lib.hid hbX
                    have HNS := Lib.hid hns
                    have HLB := Lib.hid hlb
                    clear hzr hzu hln hdl hd hwd hpk hpe hs0 hs1 hzs hnv hns hcX hnX hcB hbX hbv hbs hbn hlb hzl hhl
                    go_upto_region 24 with (go_at_call 48; refine (rwidths_calls wx na ln nc zs HNS.out HZR.out).mono ?_; rintro e w5 ⟨rfl, rfl⟩; rw [← HWD.out])
                    rename World => w5
                    obtain ⟨zl1, hzl1⟩ : ∃ zl1, zl1 = zl ++ [wd] := ⟨_, rfl⟩
                    have hzl1l : zl1.length ≤ 80000041 := by rw [hzl1]; simp; omega
                    have HZL1 := Lib.hid hzl1
                    clear hzl1
                    go_upto_region 25 with (at_builtin; (refine wpList_appJ rfl (.tmp 73) (.tmp 76) _ rfl .u8 w4.heap.size 5 _ 1 Try.underlying25 Try.infoU8 rfl _ zl rfl (HOW.out.alloc _) _ 1 1 [wd] rfl (SlI.one _ _ _ _) (by simp) (by omega) (by omega) (by simp; omega) ?_; intro v6 w6 ow6 hg6 st6; rw [← HZL1.out] at ow6; (have OW6 := Lib.hid ow6); (have HB6 := Lib.hid ((HBX.out.alloc hzx _).grown hg6 (by simp; omega) (fun j hj => (HOW.out.lt j hj).1))); (have z6 := HB6.out.size); obtain ⟨a6, k6, hv6, _, _⟩ := ow6.sl; obtain ⟨l6, hl6⟩ : ∃ l6, l6 = zl1.length := ⟨_, rfl⟩; rw [← hl6] at hv6; subst hv6; clear ow6 hg6 st6 hl6))
                    have c1 := HCX.out w6 HB6.out
                    have HN6 := Lib.hid (HNX.out w6 HB6.out)
                    go_upto_region 26 with (go_at_call 49; (refine (rpack_calls w6 na ln nc zs HN6.out HZU.out wd (by omega)).mono ?_; rintro e w7 hb7; obtain ⟨kv, rfl, ow7, b7x⟩ := hb7; rw [← HPE.out]; rw [← HPK.out] at ow7; (have ow7' := ow7); obtain ⟨ka, kc, hkv, ksl, _⟩ := ow7.sl; obtain ⟨lk, hlk⟩ : ∃ lk, lk = pk.length := ⟨_, rfl⟩; rw [← hlk] at hkv ksl; (have hkn : ka = none → kc = 0 := by rintro rfl; rw [hkv] at ow7'; exact ow7'.nil_cap); subst hkv; (have HKN := Lib.hid hkn); (have HKSL := Lib.hid ksl); (have hlk2 : lk ≤ 8388609 := by omega); (have OW7 := Lib.hid (OW6.out.stay b7x)); (have HB7 := Lib.hid (HB6.out.trans (b7x.mono z6))); (have z7 := HB7.out.size); clear ow7 ow7' ksl b7x hkn hlk))
                    obtain ⟨zl2, hzl2⟩ : ∃ zl2, zl2 = zl1 ++ pk := ⟨_, rfl⟩
                    have hzl2l : zl2.length ≤ 90000000 := by rw [hzl2]; simp; omega
                    have HZL2 := Lib.hid hzl2
                    clear hzl2
                    go_upto_region 27 with (at_builtin; (refine wpList_appJ rfl (.tmp 87) (.tmp 88) _ rfl .u8 w4.heap.size 5 _ 1 Try.underlying25 Try.infoU8 rfl _ zl1 rfl OW7.out _ _ _ pk rfl HKSL.out HKN.out (by omega) (by omega) (by omega) ?_; intro v8 w8 ow8 hg8 st8; rw [← HZL2.out] at ow8; (have OW8 := Lib.hid ow8); (have HB8 := Lib.hid (HB7.out.grown hg8 (by omega) (fun j hj => (OW7.out.lt j hj).1))); (have z8 := HB8.out.size); obtain ⟨a8, k8, hv8, _, _⟩ := ow8.sl; obtain ⟨l8, hl8⟩ : ∃ l8, l8 = zl2.length := ⟨_, rfl⟩; rw [← hl8] at hv8; subst hv8; clear ow8 hg8 st8 hl8))
                    by_cases hk0 : k = 0
                    · have how := OW8.out
                      rw [HZL2.out, HZL1.out, ← HS0.out hk0] at how
                      have HOW9 := Lib.hid how
                      have hd0 : decide (0 < k) = false := decide_eq_false (by omega)
                      clear how hk0
                      go_wp2_with fail
                      exact ⟨⟨k + 1, by go_num, by omega, HOW9.out, HB8.out⟩, by simp [intOf]; omega⟩
                    · have hd0 : decide (0 < k) = true := decide_eq_true (by omega)
                      have hk1 : 0 < k := by omega
                      have hs1 := HS1.out hk0
                      rw [← HZL1.out, ← HZL2.out] at hs1
                      have HS1' := Lib.hid hs1
                      have hwl := wh_len8 d ln HDL.out (by omega)
                      have HWL := Lib.hid hwl
                      clear hs1 hwl hk0
                      go_upto_region 28 with fail
                      refine wh_start (S := fun w' => Below w4.heap.size w4 w') 14 rfl (by kernel_rfl) ?_
                      have bV : Below w4.heap.size w4 w8.drew := below_drewN HB8.out 1
                      have hVd : Kept (fun _ => False) w8 w8.drew := (Kept.refl _ w8).drewN 1
                      generalize w8.drew = V at bV hVd ⊢
                      have zV := bV.size
                      have OWV := Lib.hid (OW8.out.kept2 hVd (fun _ _ h => h))
                      refine wh_take 0 (.slice a8 l8 k8) rfl rfl (by kernel_rfl) (by kernel_rfl) (by kernel_rfl) (fun _ _ _ h => h) bV (fun w' h => by simp [go_sem]) ?_
                      refine wh_take 1 (.int .i64 (k : Nat)) rfl rfl (by kernel_rfl) (by kernel_rfl) (by kernel_rfl) (fun _ _ _ h => h) bV (fun w' h => by simp [go_sem]) ?_
                      refine wh_take 2 (.pointer (some ⟨b9, k * 2, none⟩)) rfl rfl (by kernel_rfl) (by kernel_rfl) (by kernel_rfl) (fun _ _ _ h => h) bV (fun w' h => by simp [go_sem, hk4]; intro h4; omega) ?_
                      refine wh_take 3 (.pointer (some ⟨b9, k * 2 + 1, none⟩)) rfl rfl (by kernel_rfl) (by kernel_rfl) (by kernel_rfl) (fun _ _ _ h => h) bV (fun w' h => by simp [go_sem]) ?_
                      refine wh_take 4 (.slice ba ln bc) rfl rfl (by kernel_rfl) (by kernel_rfl) (by kernel_rfl) (fun _ _ _ h => h) bV (fun w' h => by have hc := HCB.out w' h; simp [go_sem, hc]) ?_
                      refine wh_take 6 (.int .i64 (k : Nat)) rfl rfl (by kernel_rfl) (by kernel_rfl) (by kernel_rfl) (fun _ _ _ h => h) bV (fun w' h => by simp [go_sem]) ?_
                      refine wh_take 7 (.pointer (some ⟨b9, k * 2, none⟩)) rfl rfl (by kernel_rfl) (by kernel_rfl) (by kernel_rfl) (fun _ _ _ h => h) bV (fun w' h => by simp [go_sem, hk4]; intro h4; omega) ?_
                      refine wh_take 8 (.pointer (some ⟨b9, k * 2 + 1, none⟩)) rfl rfl (by kernel_rfl) (by kernel_rfl) (by kernel_rfl) (fun _ _ _ h => h) bV (fun w' h => by simp [go_sem]) ?_
                      refine wh_take 9 (.slice ba ln bc) rfl rfl (by kernel_rfl) (by kernel_rfl) (by kernel_rfl) (fun _ _ _ h => h) bV (fun w' h => by have hc := HCB.out w' h; simp [go_sem, hc]) ?_
                      refine wh_take 10 (.int .i64 (ln : Nat)) rfl rfl (by kernel_rfl) (by kernel_rfl) (by kernel_rfl) (fun _ _ _ h => h) bV (fun w' h => by simp [go_sem]) ?_
                      refine wh_callx 5 (fun v w' => ∃ g, v = .slice (some ⟨g, 0, none⟩) ((ln + 7) / 8) ((ln + 7) / 8) ∧ RowI .u8 5 w' g (nums d) ∧ Below V.heap.size V w') rfl rfl (by kernel_rfl) (by simp [go_sem])
                        ((rpacked_calls V ba ln bc (lastB L k) (HBLX.out V bV) (by omega)).mono fun e w' ⟨g, h1, h2, h3, h4⟩ => ⟨_, h1, g, rfl, by rw [HD.out]; exact h3, h4⟩) (fun v w' ⟨g, _, _, h4⟩ => bV.trans (h4.mono zV)) ?_
                      rintro _ w10 ⟨g10, rfl, hr10, hb10⟩
                      have b10 := bV.trans (hb10.mono zV)
                      have z10 := b10.size
                      obtain ⟨lm, hlm⟩ : ∃ lm, lm = (ln + 7) / 8 := ⟨_, rfl⟩
                      rw [← hlm]
                      have hnd : (nums d).length = lm := by rw [nums_len, HDL.out, hlm]
                      have s10 := hr10.sl lm lm (by omega) hnd (by omega)
                      rw [List.take_of_length_le (by omega)] at s10
                      have ow10 := OWV.out.stay hb10
                      refine wh_callx 11 (fun v w' => Ow .u8 5 w10.heap.size w' v (nums (whB d ln)) ∧ Below w10.heap.size w10 w') rfl rfl (by kernel_rfl) (by simp [go_sem])
                        (whole_calls w10 (some ⟨g10, 0, none⟩) lm lm d ln s10 (fun e => by cases e) (by omega) (by rw [HDL.out]; omega) (by rw [HDL.out]; omega)) (fun v w' ⟨_, h4⟩ => b10.trans (h4.mono z10)) ?_
                      rintro xv w11 ⟨hx11, hb11⟩
                      have b11 := b10.trans (hb11.mono z10)
                      have z11 := b11.size
                      have ow11 := ow10.stay hb11
                      obtain ⟨xa, xc, hxv, hxs, _⟩ := hx11.sl
                      obtain ⟨xl, hxl⟩ : ∃ xl, xl = (nums (whB d ln)).length := ⟨_, rfl⟩
                      rw [← hxl] at hxv hxs
                      have hxl1 : 1 ≤ xl := by rw [hxl, nums_len, wh_len']; unfold enO mkO smO grO; omega
                      have hxl2 : xl ≤ 10000000 := by rw [hxl]; exact HWL.out
                      obtain ⟨xb, xo, rfl, _⟩ := hxs.cell 0 (by omega)
                      subst hxv
                      refine wh_ex 12 (fun v' w' => Ow .u8 5 w4.heap.size w' v' (zl2 ++ nums (whB d ln)) ∧ w11.grownBy w' (Value.slice a8 l8 k8).ownBlock ∧ OwnStep w11 (.slice a8 l8 k8) v') rfl rfl (by kernel_rfl)
                        (run_appJN (.tmp 92) (.tmp 103) 25 rfl .u8 w4.heap.size 5 _ 1 Try.underlying25 Try.infoU8 rfl (.slice a8 l8 k8) zl2 (by simp [go_sem]) ow11 ⟨xb, xo, none⟩ xl xc (nums (whB d ln)) (by simp [go_sem]) hxs (by omega) (by omega) (by omega))
                        (fun v' w' h => b11.grown h.2.1 (by omega) (fun j hj => (ow11.lt j hj).1)) ?_
                      rintro v12 w12 ⟨how12, hg12, _⟩
                      have b12 := b11.grown hg12 (by omega) (fun j hj => (ow11.lt j hj).1)
                      rw [← HS1'.out] at how12
                      refine wh_step 13 v12 (w' := w12) rfl rfl (by kernel_rfl) (by simp [go_sem]) b12 ?_
                      refine wpAnyH_done (by kernel_rfl) ?_ 0
                      have HOW12 := Lib.hid how12
                      have HB12 := Lib.hid b12
                      clear how12 hg12 b12 ow11 hxs hx11 hb11 s10 hr10 hb10 b10 b11 bV hVd ow10
                      go_wp2_with fail
                      go_roundw
                      case rel => exact ⟨k + 1, by go_num, by omega, HOW12.out, HB12.out⟩
                      case measure => simp [intOf]; omega
                  · have hk44 : k = 4 := by omega
                    have how := HOW.out
                    have htr : secP L k = treeB L := by rw [hk44, tree_sec]
                    rw [htr] at how hhl
                    obtain ⟨out, hout⟩ : ∃ out, out = treeB L := ⟨_, rfl⟩
                    rw [htr]
                    rw [← hout] at how hhl ⊢
                    have hbE : buildTE L most = if most < out.length then 1 else 0 := by unfold buildTE; rw [HC.out, if_neg (by simp), hout]
                    have hbO : buildTO L most = if buildTE L most = 0 then out else [] := by unfold buildTO; rw [hout]
                    have HBE := Lib.hid hbE
                    have HBO := Lib.hid hbO
                    have HOW9 := Lib.hid how
                    have hkn : ¬ k < 4 := hk4
                    clear hk44 how htr hout hbE hbO HOW
                    by_cases hc : most < out.length
                    · have ec : decide (most < (out.length : Int)) = true := decide_eq_true hc
                      have he1 : buildTE L most = 1 := by rw [HBE.out, if_pos hc]
                      have ho : buildTO L most = [] := by rw [HBO.out, he1]; rfl
                      have HE1 := Lib.hid he1
                      have HO := Lib.hid ho
                      clear he1 ho hc
                      go_wp2_with fail
                      go_ret2
                      exact ⟨_, by rw [HE1.out]; rfl, by rw [HO.out]; exact Ow.nil _ _ _ _, HBEL4.out.trans (HBX.out.mono hz04)⟩
                    · have ec : decide (most < (out.length : Int)) = false := decide_eq_false hc
                      have he1 : buildTE L most = 0 := by rw [HBE.out, if_neg hc]
                      have ho : buildTO L most = out := by rw [HBO.out, he1]; rfl
                      have HE1 := Lib.hid he1
                      have HO := Lib.hid ho
                      clear he1 ho hc
                      go_wp2_with fail
                      go_ret2
                      exact ⟨_, by rw [HE1.out]; rfl, by rw [HO.out]; exact HOW9.out.mono hz04, HBEL4.out.trans (HBX.out.mono hz04)⟩
end Go.Proofs.Ytgajpekolamjbaa
