/- UtfPieces: a text that comes in pieces: the scan ends as Check says, and the first error of the pieces is at Check's place. -/
import Derived.Test.YthloijpnbljpeaaDoorUtfFe
import Derived.Test.YthloijpnbljpeaaDoorUtfWk
import Derived.Test.YthloijpnbljpeaaDoorSlc
set_option linter.unusedVariables false
set_option linter.unusedSimpArgs false
namespace Go.Proofs.YthloijpnbljpeaaDoor
open Go.RowKit Go.Tk
theorem mid_below {wr w' : World} {o : Obj} {n c : Nat} (h : (wr.alloc o).grownBy w' (Value.ownBlock (.slice (some ⟨wr.heap.size, 0, none⟩) n c))) : Below wr.heap.size wr w' :=
  ((Below.refl _ wr).alloc (Nat.le_refl _) o).grown h (by simp) (fun j hj => by simp [Value.ownBlock] at hj; omega)
theorem mid_ne {wr : World} {o : Obj} {n c g : Nat} {v' : Value} (h : OwnStep (wr.alloc o) (.slice (some ⟨wr.heap.size, 0, none⟩) n c) v') (hg : g < wr.heap.size) : v'.ownBlock ≠ some g :=
  h.ne (by simp; omega) (by simp [Value.ownBlock]; omega)
theorem ow_nums {k : IntKind} {e : TypeId} {base : Nat} {w : World} {v : Value} {zs xs : List Int} (h : Ow k e base w v ([] ++ zs)) (hx : zs = xs) : Ow k e base w v xs := by subst hx; simpa using h
theorem ev_some {w : World} {v : Value} {x y : Int} (hy : y ≠ 0) (h : EV w v x y) : ∃ i, v = .iface 58 (.pointer (some ⟨i, 0, none⟩)) := by
  rcases h with ⟨_, _, h⟩ | ⟨b, _, h, _⟩
  · exact absurd h hy
  · exact ⟨b, h⟩
theorem opt_none {α β : Type} {f : α → β} {a : Option α} (h : Option.map f a = none) : a = none := by cases a <;> simp_all
theorem map_block {B g m : Nat} {a : Option Addr} (h : ∀ x, a = some x → B ≤ x.block ∧ x.block ≠ g) : ∀ x, Option.map (fun x => Addr.add x m) a = some x → B ≤ x.block ∧ x.block ≠ g := by
  intro x hx
  cases a with
  | none => simp at hx
  | some y =>
    simp at hx
    subst hx
    have e : (y.add m).block = y.block := by unfold Addr.add; split <;> rfl
    rw [e]
    exact h y rfl
theorem cut_val (z : Int) (n : Nat) (hn : n ≤ 1048576) : ∃ m : Nat, wrap64 ((IntKind.u64.wrap z).tmod ((n : Int) + 1)) = (m : Int) ∧ m ≤ n := by
  have h0 : 0 ≤ IntKind.u64.wrap z := by rw [IntKind.wrap_u64]; omega
  rw [Int.tmod_eq_emod_of_nonneg h0]
  have h1 := Int.emod_nonneg (IntKind.u64.wrap z) (b := (n : Int) + 1) (by omega)
  have h2 := Int.emod_lt_of_pos (IntKind.u64.wrap z) (b := (n : Int) + 1) (by omega)
  refine ⟨(IntKind.u64.wrap z % ((n : Int) + 1)).toNat, ?_, by omega⟩
  rw [Int.toNat_of_nonneg h1]
  generalize IntKind.u64.wrap z % ((n : Int) + 1) = y at *
  unfold wrap64
  omega
set_option maxRecDepth 100000 in
set_option maxHeartbeats 2000000 in
theorem pieces_go (w : World) (s : ByteArray) (hs : s.size ≤ 1048576) (ac : Option Addr) (lc cc : Nat) (zc : List Int) (hrow : SlI .i64 w ac lc cc zc) (hzc : ∀ z ∈ zc, (Lit.int .i64 z).wf = true) (hg : HandleMet w) :
    Calls Tryd.prog 8 #[.string s, .slice ac lc cc] w fun e w' => e = .returned (.bool true) ∧ Below w.heap.size w w' := by
  obtain ⟨l, hl⟩ : ∃ l, l = s.data.toList := ⟨_, rfl⟩
  have hll : l.length = s.size := by rw [hl, Lib.size_eq]
  have hck := fun w => check_calls s w (by omega)
  rw [← hl] at hck
  have HCK := Lib.hid hck
  have HG := Lib.hid hg
  have HLL := Lib.hid hll
  have HL := Lib.hid hl
  have hlcb : lc ≤ 9223372036854775807 := Nat.le_trans hrow.le hrow.max
  have HROW := Lib.hid hrow
  have hf0 := fl_field0
  have hf1 := fl_field1
  clear hck hg hll hl hrow
  go_enter Tryd.func8, Tryd.ntmps8
  go_wp2_with (first
    | (go_at_call 21; refine (works_calls _).mono ?_; rintro e w0 ⟨rfl, hb0⟩; (have HB0 := Lib.hid hb0); clear hb0)
    | (go_at_call 9; refine (newscan_calls _).mono ?_; rintro e w1 ⟨rfl, hsc, hb1⟩; (have HB1 := Lib.hid (HB0.out.trans (hb1.mono HB0.out.size))); (have HSC := Lib.hid hsc); (have HLT := Lib.hid hb1.size); clear hb1 hsc)
    | (refine wpList_toBytes rfl (.tmp 19) 9 28 rfl _ rfl 5 Tryd.underlying9 Tryd.underlying28 Tryd.underlying5 (by omega) ?_; intro w2 cb hsl hz1 hg1; (have HSL := Lib.hid hsl); (have HGR := Lib.hid hg1); (have HZ1 := Lib.hid hz1); clear hsl hg1 hz1)
    | (go_at_call 22; (with_reducible refine (HCK.out _).mono ?_); rintro e w3 ⟨rfl, rfl⟩))
  have hgp : w.heap.size ≤ w0.heap.size := HB0.out.size
  have hg1 := HLT.out
  have hsc := HSC.out
  have hgr := HGR.out
  have hbw2 : Below w.heap.size w w2 := HB1.out.grown hgr HB1.out.size (fun j hj => by cases hj)
  have hsc2 : ScanAt w2 w0.heap.size [] := (hgr.block _ (lt_of_block hsc) (by simp)).trans hsc
  have hglt := lt_of_block hsc
  have hne : w1.heap.size ≠ w0.heap.size := by omega
  have hwg1 : w.heap.size ≤ w1.heap.size := by omega
  have hsl := HSL.out
  clear hsc hgr HLT HSC HGR HSL HZ1 HB1 hg1
  generalize hgw : w0.heap.size = g at hsc2 hgp hne ⊢
  generalize hgv : w1.heap.size = gb at hne hwg1 hsl ⊢
  have HSC2 := Lib.hid hsc2
  have HBW2 := Lib.hid hbw2
  have HSL := Lib.hid hsl
  have HNE := Lib.hid hne
  have HGP := Lib.hid hgp
  have HWG := Lib.hid hwg1
  clear hsc2 hbw2 hsl hne hgw hgv hglt HB0 hgp hwg1
  go_loopw [6, 8, 9] (fun bv tv iv wr => ∃ (i : Nat) (p r : List UInt8) (a : Option Addr) (c : Nat), iv = .int .i64 (i : Nat) ∧ i ≤ lc ∧ p ++ r = l ∧ bv = .slice a r.length c ∧ SlI .u8 wr a r.length c (nums r) ∧ (a = none → c = 0) ∧ (∀ x, a = some x → w.heap.size ≤ x.block ∧ x.block ≠ g) ∧ tv = .bool (bdF p) ∧ ScanAt wr g p ∧ Below w.heap.size w wr) (fun _ _ iv _ => lc - (intOf iv).toNat)
  case atStart =>
    have e : s.size = l.length := HLL.out.symm
    refine ⟨0, [], l, some ⟨gb, 0, none⟩, cb, rfl, Nat.zero_le _, rfl, by rw [e], ?_, (fun h => by cases h), (fun x hx => by cases hx; exact ⟨HWG.out, HNE.out⟩), rfl, HSC2.out, HBW2.out⟩
    have h := HSL.out
    rw [← HL.out, e] at h
    exact h
  case round =>
    obtain ⟨i, p, r, a, c, rfl, hil, hpr, rfl, hsl, han, hab, rfl, hsc, hbw⟩ := hrel
    have HPR := Lib.hid hpr
    have HSLR := Lib.hid hsl
    have HAN := Lib.hid han
    have HAB := Lib.hid hab
    have HSCR := Lib.hid hsc
    have HBW := Lib.hid hbw
    have hrl : r.length ≤ 1048576 := by have := congrArg List.length hpr; rw [List.length_append, HLL.out] at this; omega
    have hlec : r.length ≤ c := hsl.le
    have hcmax := hsl.max
    clear hpr hsl han hab hsc hbw HSC2 HBW2 HSL
    by_cases hi : i < lc
    · by_cases hr : 0 < r.length
      · obtain ⟨bc, oc, rfl, hcell⟩ := (HROW.out.keep HBW.out).cell i hi
        go_upto_region 13 with fail
        obtain ⟨m, hm, hml⟩ := cut_val (zc[i]?.getD 0) r.length hrl
        rw [hm]
        clear hm hcell
        have hsm : SlI .u8 wr a m c ((nums r).take m) := HSLR.out.pre m hml
        have HSM := Lib.hid hsm
        clear hsm
        have hmc : m ≤ c := by omega
        have hx : p.length + (r.take m).length ≤ 8000000 := by have := congrArg List.length HPR.out; rw [List.length_append, HLL.out] at this; simp; omega
        have hnt := nums_take r m
        have HNT := Lib.hid hnt
        have HX := Lib.hid hx
        clear hnt hx
        go_upto_region 14 with (first
          | (at_builtin; refine wpList_appJ rfl (.tmp 46) (.tmp 49) _ rfl .u8 w.heap.size 5 _ 1 Tryd.underlying28 Tryd.infoU8 rfl _ [] rfl (ow_empty _ _ _ _ HBW.out.size) _ _ _ _ rfl (HSM.out.alloc _) HAN.out (by simp; omega) (by simp; omega) (by have := HBW.out.size; simp; omega) ?_; intro v' w' ow' hg' st'; (have MID := Lib.hid (mid_below hg')); (have HSC3 := Lib.hid (Sc4.below HSCR.out MID.out)); (have HOW := Lib.hid (ow_nums ow' HNT.out)); (have HOV := Lib.hid (mid_ne st' (Sc4.lt HSCR.out))); (have HB3 := Lib.hid (HBW.out.trans (MID.out.mono HBW.out.size))); (have HSL3 := Lib.hid (HSLR.out.keep MID.out)); clear ow' hg' st')
          | (go_at_call 11; refine (scan_feed _ _ _ _ _ _ HSC3.out HOW.out HOV.out HX.out).mono ?_; rintro e w4 ⟨x, rfl, hx⟩; (have HEV := Lib.hid hx.1); (have HSC4 := Lib.hid hx.2.1); (have HK4 := Lib.hid hx.2.2); (have HB4 := Lib.hid (HB3.out.trans (HK4.out.below HB3.out.size (fun k hk => by subst hk; exact HGP.out)))); (have HSL4 := Lib.hid (HSL3.out.kept HK4.out (fun x hx => (HAB.out x hx).2))); clear hx))
        have hpr2 : (p ++ r.take m) ++ r.drop m = l := by rw [List.append_assoc, List.take_append_drop]; exact HPR.out
        have hstay : bdF p = true → bdF (p ++ r.take m) = true := fun h => (bd_stays h (r.take m)).2.2
        have hev := HEV.out
        have HPR2 := Lib.hid hpr2
        clear hpr2 HX HNT
        by_cases hcm : c = m
        · subst hcm
          have hdl : (nums r).drop c = nums (r.drop c) := nums_drop r c
          have htail := HSL4.out.tail c hml
          rw [hdl, if_pos rfl, Nat.sub_self] at htail
          have HTAIL := Lib.hid htail
          clear hdl htail
          by_cases hb : bdF (p ++ r.take c) = true
          · have hat : chkF l 0 = (kF (p ++ r.take c) : Int) := by
              rw [← HPR2.out, (bd_stays hb _).2.1]; exact (bd_chk hb).1
            rw [hb, if_pos rfl, if_pos rfl] at hev
            obtain ⟨j, rfl⟩ := ev_some (by decide) hev
            have ebn : ((kF (p ++ r.take c) : Int) != chkF l 0) = false := by rw [hat]; simp
            have HE := Lib.hid hev
            have HBB := Lib.hid hb
            clear hev hat hb HEV hstay
            generalize bdF p = tp
            cases tp
            all_goals
              go_wp2_with (go_at_call 10; refine (fault_calls _ _ _ _ (HandleMet.below HG.out HB4.out HG.out.pos) HE.out).mono ?_; rintro e w5 ⟨rfl, hb5⟩; (have HB5 := Lib.hid hb5); clear hb5)
              go_roundw
              case rel => exact ⟨i + 1, p ++ r.take c, r.drop c, a, 0, by go_num, by omega, HPR2.out, by rw [List.length_drop, show r.length - c = 0 by omega], (by rw [List.length_drop]; exact HTAIL.out.keep HB5.out), fun _ => rfl, HAB.out, by rw [HBB.out], Sc4.below HSC4.out HB5.out, HB4.out.trans (HB5.out.mono HB4.out.size)⟩
              case measure => simp [intOf]; omega

          · have hb' : bdF (p ++ r.take c) = false := by simpa using hb
            have hp' : bdF p = false := by
              cases hq : bdF p
              · rfl
              · exact absurd (hstay hq) hb
            rw [hb'] at hev
            simp only [Bool.false_eq_true, if_false] at hev
            obtain rfl := hev.none
            rw [hp']
            have HBB := Lib.hid hb'
            clear hev hb hb' HEV hstay hp'
            go_wp2_with fail
            go_roundw
            case rel => exact ⟨i + 1, p ++ r.take c, r.drop c, a, 0, by go_num, by omega, HPR2.out, by rw [List.length_drop, show r.length - c = 0 by omega], (by rw [List.length_drop]; exact HTAIL.out), fun _ => rfl, HAB.out, by rw [HBB.out], HSC4.out, HB4.out⟩
            case measure => simp [intOf]; omega
        · have hcm' : ¬ c = m := hcm
          have hdl : (nums r).drop m = nums (r.drop m) := nums_drop r m
          have htail := HSL4.out.tail m hml
          rw [hdl, if_neg hcm] at htail
          have HTAIL := Lib.hid htail
          clear hdl htail
          by_cases hb : bdF (p ++ r.take m) = true
          · have hat : chkF l 0 = (kF (p ++ r.take m) : Int) := by
              rw [← HPR2.out, (bd_stays hb _).2.1]; exact (bd_chk hb).1
            rw [hb, if_pos rfl, if_pos rfl] at hev
            obtain ⟨j, rfl⟩ := ev_some (by decide) hev
            have ebn : ((kF (p ++ r.take m) : Int) != chkF l 0) = false := by rw [hat]; simp
            have HE := Lib.hid hev
            have HBB := Lib.hid hb
            clear hev hat hb HEV hstay
            generalize bdF p = tp
            cases tp
            all_goals
              go_wp2_with (go_at_call 10; refine (fault_calls _ _ _ _ (HandleMet.below HG.out HB4.out HG.out.pos) HE.out).mono ?_; rintro e w5 ⟨rfl, hb5⟩; (have HB5 := Lib.hid hb5); clear hb5)
              go_roundw
              case rel => exact ⟨i + 1, p ++ r.take m, r.drop m, (Option.map (fun x => x.add m) a), (c - m), by go_num, by omega, HPR2.out, by rw [List.length_drop], (by rw [List.length_drop]; exact HTAIL.out.keep HB5.out), fun h => by have := HAN.out (opt_none h); omega, map_block HAB.out, by rw [HBB.out], Sc4.below HSC4.out HB5.out, HB4.out.trans (HB5.out.mono HB4.out.size)⟩
              case measure => simp [intOf]; omega

          · have hb' : bdF (p ++ r.take m) = false := by simpa using hb
            have hp' : bdF p = false := by
              cases hq : bdF p
              · rfl
              · exact absurd (hstay hq) hb
            rw [hb'] at hev
            simp only [Bool.false_eq_true, if_false] at hev
            obtain rfl := hev.none
            rw [hp']
            have HBB := Lib.hid hb'
            clear hev hb hb' HEV hstay hp'
            go_wp2_with fail
            go_roundw
            case rel => exact ⟨i + 1, p ++ r.take m, r.drop m, (Option.map (fun x => x.add m) a), (c - m), by go_num, by omega, HPR2.out, by rw [List.length_drop], (by rw [List.length_drop]; exact HTAIL.out), fun h => by have := HAN.out (opt_none h); omega, map_block HAB.out, by rw [HBB.out], HSC4.out, HB4.out⟩
            case measure => simp [intOf]; omega
      · have hr0 : r.length = 0 := by omega
        have hx : p.length + r.length ≤ 8000000 := by have := congrArg List.length HPR.out; rw [List.length_append, HLL.out] at this; omega
        have HX := Lib.hid hx
        clear hx
        go_upto_region 19 with (first
          | (at_builtin; refine wpList_appJ rfl (.tmp 74) (.tmp 75) _ rfl .u8 w.heap.size 5 _ 1 Tryd.underlying28 Tryd.infoU8 rfl _ [] rfl (ow_empty _ _ _ _ HBW.out.size) _ _ _ _ rfl (HSLR.out.alloc _) HAN.out (by simp; omega) (by simp; omega) (by have := HBW.out.size; simp; omega) ?_; intro v' w' ow' hg' st'; (have MID := Lib.hid (mid_below hg')); (have HSC3 := Lib.hid (Sc4.below HSCR.out MID.out)); (have HOW := Lib.hid (ow_nums ow' rfl)); (have HOV := Lib.hid (mid_ne st' (Sc4.lt HSCR.out))); (have HB3 := Lib.hid (HBW.out.trans (MID.out.mono HBW.out.size))); clear ow' hg' st')
          | (go_at_call 11; refine (scan_feed _ _ _ _ _ _ HSC3.out HOW.out HOV.out HX.out).mono ?_; rintro e w4 ⟨x, rfl, hx⟩; (have HK4 := Lib.hid hx.2.2); (have HB4 := Lib.hid (HB3.out.trans (HK4.out.below HB3.out.size (fun k hk => by subst hk; exact HGP.out)))); (have HFP := Lib.hid hx); clear hx))
        have hfp := HFP.out
        unfold FeedPost at hfp
        rw [HPR.out] at hfp
        obtain ⟨hev, hs4, _⟩ := hfp
        have HS4 := Lib.hid hs4
        have hstay : bdF p = true → bdF l = true := fun h => by rw [← HPR.out]; exact (bd_stays h r).2.2
        have elen : ((l.length : Int) == (s.size : Int)) = true := by rw [HLL.out]; simp
        have hlb : l.length ≤ 1048576 := by rw [HLL.out]; exact hs
        clear hs4
        by_cases hc : chkF l 0 = -1
        · have ht := tl_nil hc
          have hb : bdF l = false := by unfold bdF; rw [ht]; rfl
          have hp' : bdF p = false := by
            cases hq : bdF p
            · rfl
            · exact absurd (hstay hq) (by rw [hb]; decide)
          rw [hb] at hev
          simp only [Bool.false_eq_true, if_false] at hev
          obtain rfl := hev.none
          have hend : ∀ w, ScanAt w g l → Calls Tryd.prog 14 #[.pointer (some ⟨g, 0, none⟩)] w fun e w' => e = .returned .nilIface ∧ Below w.heap.size w w' := fun w h => (scan_end w g l h (by omega)).mono fun e w' ⟨v, h1, h2, h3⟩ => by
            rw [ht] at h2
            simp only [if_true] at h2
            obtain rfl := h2.none
            exact ⟨h1, h3⟩
          have HEND := Lib.hid hend
          rw [hp', hc]
          clear hend hev hb hp' ht hc hstay
          go_wp2_with (first
            | (go_at_call 14; refine (HEND.out _ HS4.out).mono ?_; rintro e w6 ⟨rfl, hb6⟩; (have HS4 := Lib.hid (Sc4.below HS4.out hb6)); (have HB4 := Lib.hid (HB4.out.trans (hb6.mono HB4.out.size))); clear hb6)
            | (go_at_call 16; refine (scan_at _ _ _ HS4.out).mono ?_; rintro e w8 ⟨rfl, rfl⟩))
          go_ret
          exact ⟨rfl, HB4.out⟩
        · obtain ⟨ht, _, hk⟩ := tl_some hc
          have hend : ∀ w, ScanAt w g l → Calls Tryd.prog 14 #[.pointer (some ⟨g, 0, none⟩)] w fun e w' => (∃ j, e = .returned (.iface 58 (.pointer (some ⟨j, 0, none⟩))) ∧ EV w' (.iface 58 (.pointer (some ⟨j, 0, none⟩))) (kF l) 40) ∧ Below w.heap.size w w' := fun w h => (scan_end w g l h (by omega)).mono fun e w' ⟨v, h1, h2, h3⟩ => by
            rw [if_neg ht, if_neg ht] at h2
            obtain ⟨j, rfl⟩ := ev_some (by decide) h2
            exact ⟨⟨j, h1, h2⟩, h3⟩
          have HEND := Lib.hid hend
          rw [hk]
          clear hend ht hk hc
          by_cases hb : bdF l = true
          · rw [hb, if_pos rfl, if_pos rfl] at hev
            obtain ⟨j, rfl⟩ := ev_some (by decide) hev
            have HE := Lib.hid hev
            clear hev hb hstay
            generalize bdF p = tp
            cases tp
            all_goals
              go_wp2_with (first
                | (go_at_call 10; (with_reducible refine (fault_calls _ _ _ _ (HandleMet.below HG.out HB4.out HG.out.pos) HE.out).mono ?_); rintro e w5 ⟨rfl, hb5⟩; (have HS4 := Lib.hid (Sc4.below HS4.out hb5)); (have HB4 := Lib.hid (HB4.out.trans (hb5.mono HB4.out.size))); clear hb5)
                | (go_at_call 14; refine (HEND.out _ HS4.out).mono ?_; rintro e w6 ⟨⟨y, rfl, hy⟩, hb6⟩; (have HEY := Lib.hid hy); clear hy; (have HS4 := Lib.hid (Sc4.below HS4.out hb6)); (have HB4 := Lib.hid (HB4.out.trans (hb6.mono HB4.out.size))); clear hb6)
                | (go_at_call 10; (with_reducible refine (fault_calls _ _ _ _ (HandleMet.below HG.out HB4.out HG.out.pos) HEY.out).mono ?_); rintro e w5 ⟨rfl, hb5⟩; (have HS4 := Lib.hid (Sc4.below HS4.out hb5)); (have HB4 := Lib.hid (HB4.out.trans (hb5.mono HB4.out.size))); (have HEY := Lib.hid (HEY.out.below hb5)); clear hb5)
                | (go_at_call 16; refine (scan_at _ _ _ HS4.out).mono ?_; rintro e w8 ⟨rfl, rfl⟩))
              go_ret
              exact ⟨rfl, HB4.out⟩
          · have hb' : bdF l = false := by simpa using hb
            have hp' : bdF p = false := by
              cases hq : bdF p
              · rfl
              · exact absurd (hstay hq) hb
            rw [hb'] at hev
            simp only [Bool.false_eq_true, if_false] at hev
            obtain rfl := hev.none
            rw [hp']
            clear hev hb hb' hp' hstay
            go_wp2_with (first
              | (go_at_call 14; refine (HEND.out _ HS4.out).mono ?_; rintro e w6 ⟨⟨y, rfl, hy⟩, hb6⟩; (have HEY := Lib.hid hy); clear hy; (have HS4 := Lib.hid (Sc4.below HS4.out hb6)); (have HB4 := Lib.hid (HB4.out.trans (hb6.mono HB4.out.size))); clear hb6)
              | (go_at_call 10; (with_reducible refine (fault_calls _ _ _ _ (HandleMet.below HG.out HB4.out HG.out.pos) HEY.out).mono ?_); rintro e w5 ⟨rfl, hb5⟩; (have HS4 := Lib.hid (Sc4.below HS4.out hb5)); (have HB4 := Lib.hid (HB4.out.trans (hb5.mono HB4.out.size))); (have HEY := Lib.hid (HEY.out.below hb5)); clear hb5)
              | (go_at_call 16; refine (scan_at _ _ _ HS4.out).mono ?_; rintro e w8 ⟨rfl, rfl⟩))
            go_ret
            exact ⟨rfl, HB4.out⟩
    · have hr0 : lc ≤ i := by omega
      have hx : p.length + r.length ≤ 8000000 := by have := congrArg List.length HPR.out; rw [List.length_append, HLL.out] at this; omega
      have HX := Lib.hid hx
      clear hx
      go_upto_region 19 with (first
        | (at_builtin; refine wpList_appJ rfl (.tmp 74) (.tmp 75) _ rfl .u8 w.heap.size 5 _ 1 Tryd.underlying28 Tryd.infoU8 rfl _ [] rfl (ow_empty _ _ _ _ HBW.out.size) _ _ _ _ rfl (HSLR.out.alloc _) HAN.out (by simp; omega) (by simp; omega) (by have := HBW.out.size; simp; omega) ?_; intro v' w' ow' hg' st'; (have MID := Lib.hid (mid_below hg')); (have HSC3 := Lib.hid (Sc4.below HSCR.out MID.out)); (have HOW := Lib.hid (ow_nums ow' rfl)); (have HOV := Lib.hid (mid_ne st' (Sc4.lt HSCR.out))); (have HB3 := Lib.hid (HBW.out.trans (MID.out.mono HBW.out.size))); clear ow' hg' st')
        | (go_at_call 11; refine (scan_feed _ _ _ _ _ _ HSC3.out HOW.out HOV.out HX.out).mono ?_; rintro e w4 ⟨x, rfl, hx⟩; (have HK4 := Lib.hid hx.2.2); (have HB4 := Lib.hid (HB3.out.trans (HK4.out.below HB3.out.size (fun k hk => by subst hk; exact HGP.out)))); (have HFP := Lib.hid hx); clear hx))
      have hfp := HFP.out
      unfold FeedPost at hfp
      rw [HPR.out] at hfp
      obtain ⟨hev, hs4, _⟩ := hfp
      have HS4 := Lib.hid hs4
      have hstay : bdF p = true → bdF l = true := fun h => by rw [← HPR.out]; exact (bd_stays h r).2.2
      have elen : ((l.length : Int) == (s.size : Int)) = true := by rw [HLL.out]; simp
      have hlb : l.length ≤ 1048576 := by rw [HLL.out]; exact hs
      clear hs4
      by_cases hc : chkF l 0 = -1
      · have ht := tl_nil hc
        have hb : bdF l = false := by unfold bdF; rw [ht]; rfl
        have hp' : bdF p = false := by
          cases hq : bdF p
          · rfl
          · exact absurd (hstay hq) (by rw [hb]; decide)
        rw [hb] at hev
        simp only [Bool.false_eq_true, if_false] at hev
        obtain rfl := hev.none
        have hend : ∀ w, ScanAt w g l → Calls Tryd.prog 14 #[.pointer (some ⟨g, 0, none⟩)] w fun e w' => e = .returned .nilIface ∧ Below w.heap.size w w' := fun w h => (scan_end w g l h (by omega)).mono fun e w' ⟨v, h1, h2, h3⟩ => by
          rw [ht] at h2
          simp only [if_true] at h2
          obtain rfl := h2.none
          exact ⟨h1, h3⟩
        have HEND := Lib.hid hend
        rw [hp', hc]
        clear hend hev hb hp' ht hc hstay
        go_wp2_with (first
          | (go_at_call 14; refine (HEND.out _ HS4.out).mono ?_; rintro e w6 ⟨rfl, hb6⟩; (have HS4 := Lib.hid (Sc4.below HS4.out hb6)); (have HB4 := Lib.hid (HB4.out.trans (hb6.mono HB4.out.size))); clear hb6)
          | (go_at_call 16; refine (scan_at _ _ _ HS4.out).mono ?_; rintro e w8 ⟨rfl, rfl⟩))
        go_ret
        exact ⟨rfl, HB4.out⟩
      · obtain ⟨ht, _, hk⟩ := tl_some hc
        have hend : ∀ w, ScanAt w g l → Calls Tryd.prog 14 #[.pointer (some ⟨g, 0, none⟩)] w fun e w' => (∃ j, e = .returned (.iface 58 (.pointer (some ⟨j, 0, none⟩))) ∧ EV w' (.iface 58 (.pointer (some ⟨j, 0, none⟩))) (kF l) 40) ∧ Below w.heap.size w w' := fun w h => (scan_end w g l h (by omega)).mono fun e w' ⟨v, h1, h2, h3⟩ => by
          rw [if_neg ht, if_neg ht] at h2
          obtain ⟨j, rfl⟩ := ev_some (by decide) h2
          exact ⟨⟨j, h1, h2⟩, h3⟩
        have HEND := Lib.hid hend
        rw [hk]
        clear hend ht hk hc
        by_cases hb : bdF l = true
        · rw [hb, if_pos rfl, if_pos rfl] at hev
          obtain ⟨j, rfl⟩ := ev_some (by decide) hev
          have HE := Lib.hid hev
          clear hev hb hstay
          generalize bdF p = tp
          cases tp
          all_goals
            go_wp2_with (first
              | (go_at_call 10; (with_reducible refine (fault_calls _ _ _ _ (HandleMet.below HG.out HB4.out HG.out.pos) HE.out).mono ?_); rintro e w5 ⟨rfl, hb5⟩; (have HS4 := Lib.hid (Sc4.below HS4.out hb5)); (have HB4 := Lib.hid (HB4.out.trans (hb5.mono HB4.out.size))); clear hb5)
              | (go_at_call 14; refine (HEND.out _ HS4.out).mono ?_; rintro e w6 ⟨⟨y, rfl, hy⟩, hb6⟩; (have HEY := Lib.hid hy); clear hy; (have HS4 := Lib.hid (Sc4.below HS4.out hb6)); (have HB4 := Lib.hid (HB4.out.trans (hb6.mono HB4.out.size))); clear hb6)
              | (go_at_call 10; (with_reducible refine (fault_calls _ _ _ _ (HandleMet.below HG.out HB4.out HG.out.pos) HEY.out).mono ?_); rintro e w5 ⟨rfl, hb5⟩; (have HS4 := Lib.hid (Sc4.below HS4.out hb5)); (have HB4 := Lib.hid (HB4.out.trans (hb5.mono HB4.out.size))); (have HEY := Lib.hid (HEY.out.below hb5)); clear hb5)
              | (go_at_call 16; refine (scan_at _ _ _ HS4.out).mono ?_; rintro e w8 ⟨rfl, rfl⟩))
            go_ret
            exact ⟨rfl, HB4.out⟩
        · have hb' : bdF l = false := by simpa using hb
          have hp' : bdF p = false := by
            cases hq : bdF p
            · rfl
            · exact absurd (hstay hq) hb
          rw [hb'] at hev
          simp only [Bool.false_eq_true, if_false] at hev
          obtain rfl := hev.none
          rw [hp']
          clear hev hb hb' hp' hstay
          go_wp2_with (first
            | (go_at_call 14; refine (HEND.out _ HS4.out).mono ?_; rintro e w6 ⟨⟨y, rfl, hy⟩, hb6⟩; (have HEY := Lib.hid hy); clear hy; (have HS4 := Lib.hid (Sc4.below HS4.out hb6)); (have HB4 := Lib.hid (HB4.out.trans (hb6.mono HB4.out.size))); clear hb6)
            | (go_at_call 10; (with_reducible refine (fault_calls _ _ _ _ (HandleMet.below HG.out HB4.out HG.out.pos) HEY.out).mono ?_); rintro e w5 ⟨rfl, hb5⟩; (have HS4 := Lib.hid (Sc4.below HS4.out hb5)); (have HB4 := Lib.hid (HB4.out.trans (hb5.mono HB4.out.size))); (have HEY := Lib.hid (HEY.out.below hb5)); clear hb5)
            | (go_at_call 16; refine (scan_at _ _ _ HS4.out).mono ?_; rintro e w8 ⟨rfl, rfl⟩))
          go_ret
          exact ⟨rfl, HB4.out⟩
theorem utfpieces_up (w : World) (s : ByteArray) (hs : s.size ≤ 1048576) (a : Option Addr) (len cap : Nat) (z : List Int) (h : IsRow .i64 w a len cap z) (hg : HandleMet w) :
    Calls Tryd.prog 8 #[.string s, .slice a len cap] w fun e w' => e = .returned (.bool true) ∧ Below w.heap.size w w' := pieces_go w s hs a len cap _ h.sl.1 h.sl.2.2 hg
end Go.Proofs.YthloijpnbljpeaaDoor
