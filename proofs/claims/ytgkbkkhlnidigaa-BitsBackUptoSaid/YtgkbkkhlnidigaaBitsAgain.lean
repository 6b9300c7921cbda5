/- 'again': a cursor reads what was put in. -/
import Derived.Test.YtgkbkkhlnidigaaBitsBackM
import Derived.Test.YtgkbkkhlnidigaaBitsRdI
import Derived.Deep.RegionHeld3
import Derived.Deep.DeepCutAuto
import Derived.Deep.CutBlock
import Derived.Deep.RegionWith
import Derived.Deep.DrawnRows
namespace Go.Proofs.Ytgkbkkhlnidigaa
open Go.RowKit Go.Tk
attribute [local go_sem ↓] Go.wp_at_zero Go.wp_at_succ
theorem SlI.kept0 {S : Nat → Prop} {k : IntKind} {w w' : World} {a : Option Addr} {n cap : Nat} {zs : List Int} (h : SlI k w a n cap zs) (hk : Kept S w w') (ha : ∀ x, a = some x → 0 < n → ¬ S x.block) : SlI k w' a n cap zs :=
  ⟨h.len, h.le, h.max, fun i hi => by
    obtain ⟨b, o, rfl, hc⟩ := h.cell i hi
    exact ⟨b, o, rfl, hk.cell hc (ha ⟨b, o, none⟩ rfl (by omega))⟩⟩
theorem OpOk.kept {S : Nat → Prop} {w w' : World} {b o : Nat} {v : OpV} (h : OpOk w b o v) (hk : Kept S w w') (hb : ¬ S b) (ha : ∀ x, v.ba = some x → 0 < v.bl → ¬ S x.block) : OpOk w' b o v :=
  ⟨hk.cell h.c0 hb, hk.cell h.c1 hb, hk.cell h.c2 hb, hk.cell h.c3 hb, hk.cell h.c4 hb, h.kr, h.nr, h.kkr, SlI.kept0 h.sl hk ha, h.nil, h.u8⟩
theorem and_mask (n : Int) (h0 : 0 ≤ n) (h1 : n < 18446744073709551616) (q : Nat) (hq : q ≤ 7) : bits .and .u64 n (IntKind.u64.wrap (IntKind.u64.wrap (2 ^ (8 * q)) - 1)) = n % 2 ^ (8 * q) := by
  obtain ⟨p0, p1, _⟩ := pow8 q hq
  have i1 : IntKind.u64.wrap (2 ^ (8 * q)) = 2 ^ (8 * q) := u64_wrap (by omega) (by omega)
  rw [i1, u64_wrap (by omega) (by omega)]
  obtain ⟨a, rfl⟩ : ∃ a : Nat, n = a := ⟨n.toNat, by omega⟩
  have hp : 0 < 2 ^ (8 * q) := Nat.pow_pos (by decide)
  have h2 : ((2 ^ (8 * q) : Nat) : Int) = (2 : Int) ^ (8 * q) := by rw [Int.natCast_pow]; rfl
  have e : ((2 : Int) ^ (8 * q) - 1) = ((2 ^ (8 * q) - 1 : Nat) : Int) := by omega
  have hl : 2 ^ (8 * q) ≤ 72057594037927936 := by omega
  rw [e, u64_and_nat a _ (by omega) (by omega), Nat.and_two_pow_sub_one_eq_mod]
  simp
theorem and_none (n : Int) (h0 : 0 ≤ n) (h1 : n < 18446744073709551616) : bits .and .u64 n 0 = 0 := by
  obtain ⟨a, rfl⟩ : ∃ a : Nat, n = a := ⟨n.toNat, by omega⟩
  have := u64_and_nat a 0 (by omega) (by decide)
  rw [show ((0 : Nat) : Int) = 0 by rfl] at this
  rw [this]; simp
/-- What is known behind so many readings. -/
def agN (z : List Int) (ops : Nat → OpV) (s : Nat × Int × Bool) : Nat → Nat × Int × Bool
  | 0 => s
  | j + 1 => agStep z (agN z ops s j) (ops j)
set_option maxRecDepth 100000 in
set_option maxHeartbeats 4000000 in
theorem again_calls (w : World) (c : Nat) (a : Option Addr) (cap : Nat) (z : List Int) (i0 : Nat) (e0 : Int) (h : CurC w c a cap z i0 e0) (oa : Option Addr) (on oc : Nat) (ops : Nat → OpV) (ho : OpsAt w oa on oc ops)
    (hzn : z.length ≤ 140737488351232) (hz : ∀ x ∈ z, 0 ≤ x ∧ x < 256) (hab : ∀ x, a = some x → x.block < w.heap.size) (hob : ∀ x, oa = some x → x.block ≠ c) (hbb : ∀ i, i < on → ∀ x, (ops i).ba = some x → 0 < (ops i).bl → x.block ≠ c) :
    Calls Try.prog 37 #[.pointer (some ⟨c, 0, none⟩), .slice oa on oc] w fun e' w' => e' = .returned (.bool (agN z ops (i0, e0, true) on).2.2) ∧ CurC w' c a cap z (agN z ops (i0, e0, true) on).1 (agN z ops (i0, e0, true) on).2.1 ∧ Kept (fun k => k = c) w w' := by
  have HO := Lib.hid ho
  have HZ := Lib.hid hz
  have HAB := Lib.hid hab
  have HOB := Lib.hid hob
  have HBB := Lib.hid hbb
  have mo := ho.max
  have lo := ho.le
  have hcl := (Array.getElem?_eq_some_iff.1 h.blk).1
  clear ho hz hab hob hbb
  go_enter Try.func37, Try.ntmps37
  go_wp2_with fail
  go_loopw [5, 6] (fun bv iv wr => ∃ j : Nat, iv = .int .i64 j ∧ j ≤ on ∧ bv = .bool (agN z ops (i0, e0, true) j).2.2 ∧ CurC wr c a cap z (agN z ops (i0, e0, true) j).1 (agN z ops (i0, e0, true) j).2.1 ∧ Kept (fun k => k = c) w wr) (fun _ iv _ => on - (intOf iv).toNat)
  case atStart => exact ⟨0, rfl, by omega, rfl, h, Kept.refl _ _⟩
  case round =>
    obtain ⟨j, rfl, hj, rfl, hC, hK⟩ := hrel
    by_cases hm : j < on
    · obtain ⟨b, o, rfl, hop⟩ := HO.out.at_ j hm
      have hop1 := hop.kept hK (HOB.out _ rfl) (HBB.out j hm)
      have hN : agN z ops (i0, e0, true) (j + 1) = agStep z (agN z ops (i0, e0, true) j) (ops j) := rfl
      have HN := Lib.hid hN
      clear hop hN
      obtain ⟨s1, hs1⟩ : ∃ s1, s1 = agN z ops (i0, e0, true) (j + 1) := ⟨_, rfl⟩
      rw [← hs1] at HN
      have HS1 := Lib.hid hs1
      clear hs1
      generalize agN z ops (i0, e0, true) j = s0 at *
      obtain ⟨i, e, ok⟩ := s0
      dsimp only at hC HN ⊢
      have c0 := hop1.c0
      have c1 := hop1.c1
      have c2 := hop1.c2
      have c3 := hop1.c3
      have c4 := hop1.c4
      have hcl2 := (Array.getElem?_eq_some_iff.1 hC.blk).1
      go_upto_block 1 with fail
      go_cut [5] (fun s5 wx => s5 = .bool s1.2.2 ∧ CurC wx c a cap z s1.1 s1.2.1 ∧ Kept (fun k => k = c) w wx)
      case first =>
        have hbx : BoxO (wr.alloc (.cells #[.int .i64 (ops j).kind, .int .u64 (ops j).n, .int .i64 (ops j).k, .slice (ops j).ba (ops j).bl (ops j).bc, .bool (ops j).two] 53)) wr.heap.size (ops j) := box_new wr (ops j)
        have ka : Kept (fun _ => False) wr (wr.alloc (.cells #[.int .i64 (ops j).kind, .int .u64 (ops j).n, .int .i64 (ops j).k, .slice (ops j).ba (ops j).bl (ops j).bc, .bool (ops j).two] 53)) := (Kept.refl _ wr).alloc _
        have hCb := hC.kept ka id (fun _ _ => id)
        have kb : Kept (fun k => k = c) w (wr.alloc (.cells #[.int .i64 (ops j).kind, .int .u64 (ops j).n, .int .i64 (ops j).k, .slice (ops j).ba (ops j).bl (ops j).bc, .bool (ops j).two] 53)) := hK.trans ka (fun _ h => h.elim)
        have hopb := hop1.sl.kept ka (fun _ _ => id)
        have gne : ¬ wr.heap.size = c := by omega
        have kkr := hop1.kkr
        have nr := hop1.nr
        have HBB2 := Lib.hid (HBB.out j hm)
        go_upto_block 2 with fail
        generalize wr.alloc (.cells #[.int .i64 (ops j).kind, .int .u64 (ops j).n, .int .i64 (ops j).k, .slice (ops j).ba (ops j).bl (ops j).bc, .bool (ops j).two] 53) = wb at *
        generalize ops j = opv at *
        generalize wr.heap.size = g at *
        have hbx1 : BoxO (wb.drewN 1) g opv := hbx
        have hab2 : ∀ x, a = some x → x.block < (wb.drewN 1).heap.size := fun x hx => Nat.lt_of_lt_of_le (HAB.out x hx) kb.size
        have d0 : wb.cell? ⟨g, 1, none⟩ = some (.int .u64 opv.n) := hbx.c1
        have d9 : wb.cell? ⟨g, 2, none⟩ = some (.int .i64 opv.k) := hbx.c2
        have d8 : wb.cell? ⟨g, 3, none⟩ = some (.slice opv.ba opv.bl opv.bc) := hbx.c3
        have hw8 : IntKind.u8.wrap opv.n = opv.n % 256 := by simp [IntKind.wrap, IntKind.bits, IntKind.signed]
        clear c0 c1 c2 c3 c4 hop1 hC hK ka hcl2
        by_cases h1 : opv.kind = 1
        · have hs1 : s1 = ((tk z i e 1).2.1, (tk z i e 1).2.2, (tk z i e 1).1.getD 0 0 == opv.n % 256 && (tk z i e 1).2.2 == 0 && ok) := by rw [HN.out]; unfold agStep; rw [if_pos h1]
          have b1 : (opv.kind == 1) = true := by simp [h1]
          clear h1 HN
          have R := cbyte_calls _ c a cap z i e (hCb.drewN 1)
          generalize tk z i e 1 = t at *
          obtain ⟨l, i2, e2⟩ := t
          simp only at hs1 R
          generalize l.getD 0 0 = x at *
          subst hs1
          by_cases hv : x = opv.n % 256
          · by_cases he : e2 = 0
            · have hb1 : (x == opv.n % 256) = true := by simp [hv]
              have hb2 : (e2 == 0) = true := by simp [he]
              have HV := Lib.hid hv
              have HE := Lib.hid he
              clear hv he
              go_wp2_with fail
              first
                | go_region_held3 (fun w' => w'.cell? ⟨g, 1, none⟩ = some (.int .u64 opv.n)) (simp [*])
                    (first
                      | (go_at_call 38; refine R.mono ?_; rintro e9 w1 ⟨rfl, hC1, hk1⟩; have d1 : w1.cell? ⟨g, 1, none⟩ = some (.int .u64 opv.n) := (BoxO.kept hbx1 hk1 gne).c1)
                      | (go_at_call 26; refine (err_calls _ c a cap z _ _ hC1).mono ?_; rintro e9 w9 ⟨rfl, rfl⟩))
                | fail
              go_wp2
              go_meet
              exact ⟨by simp [hb1, hb2], hC1, (kb.drewN 1).trans hk1 (fun k hk => .inl hk)⟩
            · have hb1 : (x == opv.n % 256) = true := by simp [hv]
              have hb2 : (e2 == 0) = false := by simp [he]
              have HV := Lib.hid hv
              have HE := Lib.hid he
              clear hv he
              go_wp2_with fail
              first
                | go_region_with (first
                      | (go_at_call 38; refine R.mono ?_; rintro e9 w1 ⟨rfl, hC1, hk1⟩; have d1 : w1.cell? ⟨g, 1, none⟩ = some (.int .u64 opv.n) := (BoxO.kept hbx1 hk1 gne).c1)
                      | (go_at_call 26; refine (err_calls _ c a cap z _ _ hC1).mono ?_; rintro e9 w9 ⟨rfl, rfl⟩))
                | fail
              all_goals go_wp2
              all_goals go_meet
              all_goals exact ⟨by simp [hb1, hb2], hC1, (kb.drewN 1).trans hk1 (fun k hk => .inl hk)⟩
          · have hb1 : (x == opv.n % 256) = false := by simp [hv]
            have HV := Lib.hid hv
            clear hv
            go_wp2_with fail
            first
              | go_region_with (first
                    | (go_at_call 38; refine R.mono ?_; rintro e9 w1 ⟨rfl, hC1, hk1⟩; have d1 : w1.cell? ⟨g, 1, none⟩ = some (.int .u64 opv.n) := (BoxO.kept hbx1 hk1 gne).c1))
              | fail
            all_goals go_wp2
            all_goals go_meet
            all_goals exact ⟨by simp [hb1], hC1, (kb.drewN 1).trans hk1 (fun k hk => .inl hk)⟩
        by_cases h2 : opv.kind = 2
        · have hs1 : s1 = ((tk z i e opv.bz.length).2.1, (tk z i e opv.bz.length).2.2, sameB (tk z i e opv.bz.length).1 opv.bz && (tk z i e opv.bz.length).2.2 == 0 && ok) := by rw [HN.out]; unfold agStep; rw [if_neg h1, if_pos h2]
          have b2 : (opv.kind == 2) = true := by simp [h2]
          have n1 : (opv.kind == 1) = false := by simp [h1]
          clear h1 h2 HN
          have R := craw_calls _ c a cap z i e (opv.bl : Int) (hCb.drewN 1) (fun x hx => hab2 x hx) (by omega)
          have hsl := hopb
          have hln := hsl.len
          have hlm := hsl.max
          have hll := hsl.le
          have b0 : (0 : Int) ≤ (opv.bl : Int) := by omega
          rw [hln] at hs1
          have HSL := Lib.hid hsl
          clear hsl hln hopb
          generalize tk z i e (opv.bl : Int) = t at *
          obtain ⟨l, i2, e2⟩ := t
          simp only at hs1 R
          obtain ⟨sv, hsv⟩ : ∃ sv, sv = sameB l opv.bz := ⟨_, rfl⟩
          rw [← hsv] at hs1
          have HSV := Lib.hid hsv
          clear hsv
          subst hs1
          by_cases hv : sv = true
          · by_cases he : e2 = 0
            · have hb1 : sv = true := by simp [hv]
              have hb2 : (e2 == 0) = true := by simp [he]
              have HV := Lib.hid hv
              have HE := Lib.hid he
              clear hv he
              go_wp2_with fail
              first
                | go_region_held3 (fun w' => w'.cell? ⟨g, 3, none⟩ = some (.slice opv.ba opv.bl opv.bc)) (simp [*])
                    (first
                      | (go_at_call 39; refine R.mono ?_; rintro e9 w1 ⟨v7, rfl, o7, hC1, hk1⟩; obtain ⟨va, vc, rfl, s7, _⟩ := o7.sl; have d1 : w1.cell? ⟨g, 3, none⟩ = some (.slice opv.ba opv.bl opv.bc) := (BoxO.kept hbx1 hk1 gne).c3; have SB := Lib.hid (SlI.kept0 (HSL.out.drewN 1) hk1 (HBB2.out)))
                      | (go_at_call 16; refine (same_calls _ _ _ _ l _ _ _ opv.bz s7 SB.out).mono ?_; rw [← HSV.out]; rintro e9 w2 ⟨rfl, m2, rfl⟩; have hC2 := hC1.drewN m2)
                      | (go_at_call 26; refine (err_calls _ c a cap z _ _ hC2).mono ?_; rintro e9 w9 ⟨rfl, rfl⟩))
                | fail
              go_wp2
              go_meet
              exact ⟨by simp [hb1, hb2], hC2, ((kb.drewN 1).trans hk1 (fun k hk => .inl hk)).drewN m2⟩
            · have hb1 : sv = true := by simp [hv]
              have hb2 : (e2 == 0) = false := by simp [he]
              have HV := Lib.hid hv
              have HE := Lib.hid he
              clear hv he
              go_wp2_with fail
              first
                | go_region_with (first
                      | (go_at_call 39; refine R.mono ?_; rintro e9 w1 ⟨v7, rfl, o7, hC1, hk1⟩; obtain ⟨va, vc, rfl, s7, _⟩ := o7.sl; have d1 : w1.cell? ⟨g, 3, none⟩ = some (.slice opv.ba opv.bl opv.bc) := (BoxO.kept hbx1 hk1 gne).c3; have SB := Lib.hid (SlI.kept0 (HSL.out.drewN 1) hk1 (HBB2.out)))
                      | (go_at_call 16; refine (same_calls _ _ _ _ l _ _ _ opv.bz s7 SB.out).mono ?_; rw [← HSV.out]; rintro e9 w2 ⟨rfl, m2, rfl⟩; have hC2 := hC1.drewN m2)
                      | (go_at_call 26; refine (err_calls _ c a cap z _ _ hC2).mono ?_; rintro e9 w9 ⟨rfl, rfl⟩))
                | fail
              all_goals go_wp2
              all_goals go_meet
              all_goals exact ⟨by simp [hb1, hb2], hC2, ((kb.drewN 1).trans hk1 (fun k hk => .inl hk)).drewN m2⟩
          · have hb1 : sv = false := by simp [hv]
            have HV := Lib.hid hv
            clear hv
            go_wp2_with fail
            first
              | go_region_with (first
                    | (go_at_call 39; refine R.mono ?_; rintro e9 w1 ⟨v7, rfl, o7, hC1, hk1⟩; obtain ⟨va, vc, rfl, s7, _⟩ := o7.sl; have d1 : w1.cell? ⟨g, 3, none⟩ = some (.slice opv.ba opv.bl opv.bc) := (BoxO.kept hbx1 hk1 gne).c3; have SB := Lib.hid (SlI.kept0 (HSL.out.drewN 1) hk1 (HBB2.out)))
                    | (go_at_call 16; refine (same_calls _ _ _ _ l _ _ _ opv.bz s7 SB.out).mono ?_; rw [← HSV.out]; rintro e9 w2 ⟨rfl, m2, rfl⟩; have hC2 := hC1.drewN m2))
              | fail
            all_goals go_wp2
            all_goals go_meet
            all_goals exact ⟨by simp [hb1], hC2, ((kb.drewN 1).trans hk1 (fun k hk => .inl hk)).drewN m2⟩
        by_cases h3 : opv.kind = 3
        · have hs1 : s1 = ((upS z i e 18446744073709551615).2.1, (upS z i e 18446744073709551615).2.2, (upS z i e 18446744073709551615).1 == opv.n && (upS z i e 18446744073709551615).2.2 == 0 && ok) := by rw [HN.out]; unfold agStep; rw [if_neg h1, if_neg h2, if_pos h3]
          have b3 : (opv.kind == 3) = true := by simp [h3]
          have n1 : (opv.kind == 1) = false := by simp [h1]
          have n2 : (opv.kind == 2) = false := by simp [h2]
          clear h1 h2 h3 HN
          have R := cvarint_calls _ c a cap z i e (hCb.drewN 1) HZ.out
          generalize upS z i e 18446744073709551615 = t at *
          obtain ⟨x, i2, e2⟩ := t
          simp only at hs1 R
          subst hs1
          by_cases hv : x = opv.n
          · by_cases he : e2 = 0
            · have hb1 : (x == opv.n) = true := by simp [hv]
              have hb2 : (e2 == 0) = true := by simp [he]
              have HV := Lib.hid hv
              have HE := Lib.hid he
              clear hv he
              go_wp2_with fail
              first
                | go_region_held3 (fun w' => w'.cell? ⟨g, 1, none⟩ = some (.int .u64 opv.n)) (simp [*])
                    (first
                      | (go_at_call 40; refine R.mono ?_; rintro e9 w1 ⟨rfl, hC1, hk1⟩; have d1 : w1.cell? ⟨g, 1, none⟩ = some (.int .u64 opv.n) := (BoxO.kept hbx1 hk1 gne).c1)
                      | (go_at_call 26; refine (err_calls _ c a cap z _ _ hC1).mono ?_; rintro e9 w9 ⟨rfl, rfl⟩))
                | fail
              go_wp2
              go_meet
              exact ⟨by simp [hb1, hb2], hC1, (kb.drewN 1).trans hk1 (fun k hk => .inl hk)⟩
            · have hb1 : (x == opv.n) = true := by simp [hv]
              have hb2 : (e2 == 0) = false := by simp [he]
              have HV := Lib.hid hv
              have HE := Lib.hid he
              clear hv he
              go_wp2_with fail
              first
                | go_region_with (first
                      | (go_at_call 40; refine R.mono ?_; rintro e9 w1 ⟨rfl, hC1, hk1⟩; have d1 : w1.cell? ⟨g, 1, none⟩ = some (.int .u64 opv.n) := (BoxO.kept hbx1 hk1 gne).c1)
                      | (go_at_call 26; refine (err_calls _ c a cap z _ _ hC1).mono ?_; rintro e9 w9 ⟨rfl, rfl⟩))
                | fail
              all_goals go_wp2
              all_goals go_meet
              all_goals exact ⟨by simp [hb1, hb2], hC1, (kb.drewN 1).trans hk1 (fun k hk => .inl hk)⟩
          · have hb1 : (x == opv.n) = false := by simp [hv]
            have HV := Lib.hid hv
            clear hv
            go_wp2_with fail
            first
              | go_region_with (first
                    | (go_at_call 40; refine R.mono ?_; rintro e9 w1 ⟨rfl, hC1, hk1⟩; have d1 : w1.cell? ⟨g, 1, none⟩ = some (.int .u64 opv.n) := (BoxO.kept hbx1 hk1 gne).c1))
              | fail
            all_goals go_wp2
            all_goals go_meet
            all_goals exact ⟨by simp [hb1], hC1, (kb.drewN 1).trans hk1 (fun k hk => .inl hk)⟩
        by_cases h4 : opv.kind = 4
        · have hs1 : s1 = ((tk z i e (oct opv.k : Nat)).2.1, (tk z i e (oct opv.k : Nat)).2.2, fxA (tk z i e (oct opv.k : Nat)).1 (tk z i e (oct opv.k : Nat)).1.length == opv.n % 2 ^ (8 * oct opv.k) && (tk z i e (oct opv.k : Nat)).2.2 == 0 && ok) := by rw [HN.out]; unfold agStep; rw [if_neg h1, if_neg h2, if_neg h3, if_pos h4]
          have b4 : (opv.kind == 4) = true := by simp [h4]
          have n1 : (opv.kind == 1) = false := by simp [h1]
          have n2 : (opv.kind == 2) = false := by simp [h2]
          have n3 : (opv.kind == 3) = false := by simp [h3]
          clear h1 h2 h3 h4 HN
          have R := cfixed_calls _ c a cap z i e opv.k hCb kkr.1 kkr.2 HZ.out
          have M0 := and_none opv.n nr.1 nr.2
          have M1 := and_mask opv.n nr.1 nr.2
          have D1 : ∀ w1, Kept (fun k => k = c) wb w1 → w1.cell? ⟨g, 2, none⟩ = some (.int .i64 opv.k) := fun w1 hk1 => (BoxO.kept hbx hk1 gne).c2
          have hoc : oct opv.k = (min (max opv.k 0) 8).toNat := rfl
          generalize tk z i e (oct opv.k : Nat) = t at *
          obtain ⟨l, i2, e2⟩ := t
          simp only at hs1 R
          generalize fxA l l.length = x at *
          obtain ⟨x2, hx2⟩ : ∃ x2, x2 = opv.n % 2 ^ (8 * oct opv.k) := ⟨_, rfl⟩
          rw [← hx2] at hs1
          subst hs1
          generalize opv.k = k9 at *
          have HD := Lib.hid D1
          clear D1
          by_cases q8 : k9 < 8
          · by_cases q0 : k9 ≤ 0
            · have ho : oct k9 = 0 := by omega
              rw [ho] at hx2
              have hm : bits .and .u64 opv.n 0 = x2 := by rw [M0, hx2]; simp [Int.emod_one]
              clear M0 M1 hx2 ho hoc
              by_cases hv : x = x2
              · have hb1 : (x == x2) = true := by simp [hv]
                have HV := Lib.hid hv
                clear hv
                by_cases he : e2 = 0
                · have hb2 : (e2 == 0) = true := by simp [he]
                  have HE := Lib.hid he
                  clear he
                  go_wp2_with (first
                      | (go_at_call 41; refine R.mono ?_; rintro e9 w1 ⟨rfl, hC1, hk1⟩; have d1 := HD.out w1 hk1)
                      | (go_at_call 26; refine (err_calls _ c a cap z _ _ hC1).mono ?_; rintro e9 w9 ⟨rfl, rfl⟩))
                  go_meet
                  exact ⟨by simp [hb1, hb2], hC1, kb.trans hk1 (fun k hk => .inl hk)⟩
                · have hb2 : (e2 == 0) = false := by simp [he]
                  have HE := Lib.hid he
                  clear he
                  go_wp2_with (first
                      | (go_at_call 41; refine R.mono ?_; rintro e9 w1 ⟨rfl, hC1, hk1⟩; have d1 := HD.out w1 hk1)
                      | (go_at_call 26; refine (err_calls _ c a cap z _ _ hC1).mono ?_; rintro e9 w9 ⟨rfl, rfl⟩))
                  go_meet
                  exact ⟨by simp [hb1, hb2], hC1, kb.trans hk1 (fun k hk => .inl hk)⟩
              · have hb1 : (x == x2) = false := by simp [hv]
                have HV := Lib.hid hv
                clear hv
                go_wp2_with (first
                    | (go_at_call 41; refine R.mono ?_; rintro e9 w1 ⟨rfl, hC1, hk1⟩; have d1 := HD.out w1 hk1)
                    | (go_at_call 26; refine (err_calls _ c a cap z _ _ hC1).mono ?_; rintro e9 w9 ⟨rfl, rfl⟩))
                go_meet
                exact ⟨by simp [hb1], hC1, kb.trans hk1 (fun k hk => .inl hk)⟩
            · obtain ⟨q, rfl⟩ : ∃ q : Nat, k9 = q := ⟨k9.toNat, by omega⟩
              have ho : oct q = q := by omega
              rw [ho] at hx2
              have hm : bits .and .u64 opv.n (IntKind.u64.wrap (IntKind.u64.wrap (2 ^ (8 * q)) - 1)) = x2 := by rw [M1 q (by omega), hx2]
              clear M0 M1 hx2 ho hoc
              by_cases hv : x = x2
              · have hb1 : (x == x2) = true := by simp [hv]
                have HV := Lib.hid hv
                clear hv
                by_cases he : e2 = 0
                · have hb2 : (e2 == 0) = true := by simp [he]
                  have HE := Lib.hid he
                  clear he
                  go_wp2_with (first
                      | (go_at_call 41; refine R.mono ?_; rintro e9 w1 ⟨rfl, hC1, hk1⟩; have d1 := HD.out w1 hk1)
                      | (go_at_call 26; refine (err_calls _ c a cap z _ _ hC1).mono ?_; rintro e9 w9 ⟨rfl, rfl⟩))
                  go_meet
                  exact ⟨by simp [hb1, hb2], hC1, kb.trans hk1 (fun k hk => .inl hk)⟩
                · have hb2 : (e2 == 0) = false := by simp [he]
                  have HE := Lib.hid he
                  clear he
                  go_wp2_with (first
                      | (go_at_call 41; refine R.mono ?_; rintro e9 w1 ⟨rfl, hC1, hk1⟩; have d1 := HD.out w1 hk1)
                      | (go_at_call 26; refine (err_calls _ c a cap z _ _ hC1).mono ?_; rintro e9 w9 ⟨rfl, rfl⟩))
                  go_meet
                  exact ⟨by simp [hb1, hb2], hC1, kb.trans hk1 (fun k hk => .inl hk)⟩
              · have hb1 : (x == x2) = false := by simp [hv]
                have HV := Lib.hid hv
                clear hv
                go_wp2_with (first
                    | (go_at_call 41; refine R.mono ?_; rintro e9 w1 ⟨rfl, hC1, hk1⟩; have d1 := HD.out w1 hk1)
                    | (go_at_call 26; refine (err_calls _ c a cap z _ _ hC1).mono ?_; rintro e9 w9 ⟨rfl, rfl⟩))
                go_meet
                exact ⟨by simp [hb1], hC1, kb.trans hk1 (fun k hk => .inl hk)⟩
          · have ho : oct k9 = 8 := by omega
            rw [ho] at hx2
            obtain rfl : opv.n = x2 := by rw [hx2]; have := nr.1; have := nr.2; omega
            clear M0 M1 hx2 ho hoc
            by_cases hv : x = opv.n
            · have hb1 : (x == opv.n) = true := by simp [hv]
              have HV := Lib.hid hv
              clear hv
              by_cases he : e2 = 0
              · have hb2 : (e2 == 0) = true := by simp [he]
                have HE := Lib.hid he
                clear he
                go_wp2_with (first
                    | (go_at_call 41; refine R.mono ?_; rintro e9 w1 ⟨rfl, hC1, hk1⟩; have d1 := HD.out w1 hk1)
                    | (go_at_call 26; refine (err_calls _ c a cap z _ _ hC1).mono ?_; rintro e9 w9 ⟨rfl, rfl⟩))
                go_meet
                exact ⟨by simp [hb1, hb2], hC1, kb.trans hk1 (fun k hk => .inl hk)⟩
              · have hb2 : (e2 == 0) = false := by simp [he]
                have HE := Lib.hid he
                clear he
                go_wp2_with (first
                    | (go_at_call 41; refine R.mono ?_; rintro e9 w1 ⟨rfl, hC1, hk1⟩; have d1 := HD.out w1 hk1)
                    | (go_at_call 26; refine (err_calls _ c a cap z _ _ hC1).mono ?_; rintro e9 w9 ⟨rfl, rfl⟩))
                go_meet
                exact ⟨by simp [hb1, hb2], hC1, kb.trans hk1 (fun k hk => .inl hk)⟩
            · have hb1 : (x == opv.n) = false := by simp [hv]
              have HV := Lib.hid hv
              clear hv
              go_wp2_with (first
                  | (go_at_call 41; refine R.mono ?_; rintro e9 w1 ⟨rfl, hC1, hk1⟩; have d1 := HD.out w1 hk1)
                  | (go_at_call 26; refine (err_calls _ c a cap z _ _ hC1).mono ?_; rintro e9 w9 ⟨rfl, rfl⟩))
              go_meet
              exact ⟨by simp [hb1], hC1, kb.trans hk1 (fun k hk => .inl hk)⟩
        have n1 : (opv.kind == 1) = false := by simp [h1]
        have n2 : (opv.kind == 2) = false := by simp [h2]
        have n3 : (opv.kind == 3) = false := by simp [h3]
        have n4 : (opv.kind == 4) = false := by simp [h4]
        have hs1 : s1 = (i, e, ok) := by rw [HN.out]; unfold agStep; rw [if_neg h1, if_neg h2, if_neg h3, if_neg h4]
        clear h1 h2 h3 h4 HN
        subst hs1
        go_wp2_with fail
        go_meet
        exact ⟨rfl, hCb, kb⟩
      case rest =>
        rename World => wx
        obtain ⟨rfl, hC1, hk1⟩ := hcut
        go_wp2
        go_roundw
        case rel => exact ⟨j + 1, by simp, by omega, by rw [← HS1.out], by rw [← HS1.out]; exact hC1, hk1⟩
        case measure => simp [intOf]; omega
    · obtain rfl : j = on := by omega
      go_wp2
      go_ret
      exact ⟨rfl, hC, hK⟩
end Go.Proofs.Ytgkbkkhlnidigaa
