/- VdY VdZ, laid as one. -/
import Derived.Test.YtlhcejbimlilaaaGreatDoorVeB
import Derived.Test.YtlhcejbimlilaaaGreatDoorVbE
import Derived.Test.YtlhcejbimlilaaaGreatDoorVeA
import Derived.Test.YtlhcejbimlilaaaGreatDoorQuL
set_option linter.unusedVariables false
set_option linter.unusedSimpArgs false
/- The document's Known, Check, and ValueChecks' walk, given what hexed and base64 answer. -/
namespace Go.Proofs.YtlhcejbimlilaaaGreatDoor
open Go.RowKit Go.Tk
abbrev HxT (s : ByteArray) : Prop := TwoB 42 #[.string s] (hexP (gtP s.data.toList)).isSome
abbrev B6T (s : ByteArray) : Prop := TwoB 43 #[.string s] (b6R s.data.toList).2
set_option maxHeartbeats 1000000 in
theorem rcheck_calls8 (T s : ByteArray) (w : World) (hx : s.size ≤ 65536 → HxT s) (hb : s.size ≤ 65536 → B6T s) (hs : s.size ≤ 9223372036854775807) :
    Calls Tryz.prog 14 #[.string T, .string s] w fun e w' => e = .returned (.int .i64 (chkE T.data.toList s.data.toList)) ∧ Below w.heap.size w w' := by
  have hl : s.data.toList.length = s.size := (Lib.size_eq s).symm
  by_cases hz : 65536 < s.size
  · have e : chkE T.data.toList s.data.toList = 2 := by unfold chkE; rw [hl, if_pos hz]
    rw [e]
    have hz' : 65536 < (s.size : Int) := by omega
    clear e hl hz hx hb
    go_enter Tryz.func14, Tryz.ntmps14
    go_wp2_with fail
    go_ret
    exact ⟨rfl, Below.refl _ _⟩
  have hz2 : s.size ≤ 65536 := by omega
  have hk := fun w => kindOf_calls T w
  have hi := fun (nm : ByteArray) w => ris_calls (t := T.data.toList) (kdOf T.data.toList) rfl nm s w hz2 (hx hz2) (hb hz2)
  have hc : chkE T.data.toList s.data.toList = if isO (kdOf T.data.toList) s.data.toList = true then 0 else 80 := by
    unfold chkE
    rw [if_neg (by rw [hl]; exact hz)]
    cases kdOf T.data.toList with
    | none => rfl
    | some k => rfl
  rw [hc]
  obtain ⟨o, ho⟩ : ∃ o, o = kdOf T.data.toList := ⟨_, rfl⟩
  rw [← ho] at hk hi ⊢
  have hk2 : ∀ w, Calls Tryz.prog 25 #[.string T] w fun e w' => ∃ nm : ByteArray, e = .returned (.agg #[.string nm, .int .i64 (lkO o), .string ⟨(loO o).toArray⟩, .string ⟨(hiO o).toArray⟩]) ∧ Below w.heap.size w w' := hk
  obtain ⟨q, hq⟩ : ∃ q, q = isO o s.data.toList := ⟨_, rfl⟩
  rw [← hq] at hi ⊢
  have hz' : (s.size : Int) ≤ 65536 := by omega
  have HK := Lib.hid hk2
  have HI := Lib.hid hi
  clear hk hk2 hi hc ho hq hx hb hl hz hz2
  cases q with
  | true =>
    rw [if_pos rfl]
    go_enter Tryz.func14, Tryz.ntmps14
    go_wp2_with (first | (go_at_call 25; (with_reducible refine (HK.out _).mono ?_); rintro e' w1 ⟨nm, rfl, hb1⟩) | (go_at_call 26; (with_reducible refine (HI.out _ _).mono ?_); rintro e' w2 ⟨rfl, hb2⟩))
    go_ret
    exact ⟨rfl, hb1.trans (hb2.mono hb1.size)⟩
  | false =>
    rw [if_neg (by simp)]
    go_enter Tryz.func14, Tryz.ntmps14
    go_wp2_with (first | (go_at_call 25; (with_reducible refine (HK.out _).mono ?_); rintro e' w1 ⟨nm, rfl, hb1⟩) | (go_at_call 26; (with_reducible refine (HI.out _ _).mono ?_); rintro e' w2 ⟨rfl, hb2⟩))
    go_ret
    exact ⟨rfl, hb1.trans (hb2.mono hb1.size)⟩
end Go.Proofs.YtlhcejbimlilaaaGreatDoor
/- The document's hexed: does it take a text. -/
namespace Go.Proofs.YtlhcejbimlilaaaGreatDoor
open Go.RowKit Go.Tk
theorem hex_okv (L : List UInt8) : (hexP (gtP L)).isSome = (L.all (fun c => decide (0 ≤ hxV (gtC c))) && decide (L.length % 2 = 0)) := by
  rw [hexP_some]
  unfold gtP
  rw [List.all_map, List.length_map]
  rfl
theorem all_snoc {L : List UInt8} {k : Nat} (h : k < L.length) (f : UInt8 → Bool) : (L.take (k + 1)).all f = ((L.take k).all f && f L[k]) := by
  rw [List.take_add_one, List.getElem?_eq_getElem h, List.all_append]
  simp
set_option maxRecDepth 100000 in
set_option maxHeartbeats 8000000 in
theorem hexed_V (s : ByteArray) (w : World) (hs : s.size ≤ 65536) : Calls Tryz.prog 42 #[.string s] w fun e w' => ∃ V, e = .returned (.tuple #[V, .bool (hexP (gtP s.data.toList)).isSome]) ∧ Below w.heap.size w w' ∧ ((hexP (gtP s.data.toList)).isSome = true → Ow .u8 5 w.heap.size w' V (hxZ s.data.toList)) := by
  obtain ⟨ok, hok⟩ : ∃ ok, ok = (hexP (gtP s.data.toList)).isSome := ⟨_, rfl⟩
  rw [← hok]
  have HOK := Lib.hid hok
  clear hok
  go_enter Tryz.func42, Tryz.ntmps42
  go_wp2_with fail
  go_loopw [4, 5, 6, 7] (fun v i _ _ wr => ∃ (k : Nat) (zs : List Int), k ≤ s.size ∧ i = .int .i64 (k : Nat) ∧ zs.length = (k + 1) / 2 ∧ zs = hxZ (s.data.toList.take k) ∧ (k % 2 = 1 → ∃ a : Int, 0 ≤ a ∧ a < 16 ∧ zs.getD (k / 2) 0 = 16 * a) ∧ Ow .u8 5 w.heap.size wr v zs ∧ Below w.heap.size w wr ∧ (s.data.toList.take k).all (fun c => decide (0 ≤ hxV (gtC c))) = true) (fun _ i _ _ _ => s.size - (intOf i).toNat)
  case atStart => exact ⟨0, [], Nat.zero_le _, rfl, rfl, rfl, fun h => by omega, Ow.nil _ _ _ _, Below.refl _ _, rfl⟩
  case round =>
    obtain ⟨k, zs, hk, rfl, hzl, hzx, hod, how, hbw, hall⟩ := hrel
    have HZX := Lib.hid hzx
    clear hzx
    have HOD := Lib.hid hod
    have HOW := Lib.hid how
    have HBW := Lib.hid hbw
    have HALL := Lib.hid hall
    have HZL := Lib.hid hzl
    clear hod how hbw hall hzl
    by_cases hlt : k < s.size
    · obtain ⟨c, hc⟩ : ∃ c, s[k] = c := ⟨_, rfl⟩
      obtain ⟨x, hx⟩ : ∃ x : Int, (((s[k]).toNat : Nat) : Int) = x := ⟨_, rfl⟩
      have hcx : (c.toNat : Int) = x := by rw [← hc]; exact hx
      have HCX := Lib.hid hcx
      have HC := Lib.hid hc
      clear hcx hc
      go_wp2_with fail
      go_loopw [6, 7] (fun n kk w2 => ∃ j : Nat, j ≤ 16 ∧ kk = .int .i64 (j : Nat) ∧ n = .int .i64 (hxD c j) ∧ Below wr.heap.size wr w2) (fun _ kk _ => 16 - (intOf kk).toNat)
      case atStart => exact ⟨0, Nat.zero_le _, rfl, rfl, Below.refl _ _⟩
      case round =>
        obtain ⟨j, hj, rfl, rfl, hb2⟩ := hrel
        by_cases hj16 : j < 16
        · have HB2 := Lib.hid hb2
          clear hb2
          have hjU : j < (⟨#[48, 49, 50, 51, 52, 53, 54, 55, 56, 57, 65, 66, 67, 68, 69, 70]⟩ : ByteArray).size := hj16
          have hjL : j < (⟨#[48, 49, 50, 51, 52, 53, 54, 55, 56, 57, 97, 98, 99, 100, 101, 102]⟩ : ByteArray).size := hj16
          have eU : (⟨#[48, 49, 50, 51, 52, 53, 54, 55, 56, 57, 65, 66, 67, 68, 69, 70]⟩ : ByteArray)[j]'hjU = hxU.getD j 0 := by
            rw [← ba_get (⟨#[48, 49, 50, 51, 52, 53, 54, 55, 56, 57, 65, 66, 67, 68, 69, 70]⟩ : ByteArray) j hjU, List.getD_eq_getElem?_getD, List.getElem?_eq_getElem (by show j < 16; exact hj16)]; rfl
          have eL : (⟨#[48, 49, 50, 51, 52, 53, 54, 55, 56, 57, 97, 98, 99, 100, 101, 102]⟩ : ByteArray)[j]'hjL = hxL.getD j 0 := by
            rw [← ba_get (⟨#[48, 49, 50, 51, 52, 53, 54, 55, 56, 57, 97, 98, 99, 100, 101, 102]⟩ : ByteArray) j hjL, List.getD_eq_getElem?_getD, List.getElem?_eq_getElem (by show j < 16; exact hj16)]; rfl
          have hD : hxD c (j + 1) = if c = hxU.getD j 0 ∨ c = hxL.getD j 0 then (j : Int) else hxD c j := rfl
          rw [← eU, ← eL] at hD
          have cmp : ∀ d : UInt8, (x == ((d.toNat : Nat) : Int)) = decide (c = d) := fun d => by
            have := HCX.out
            by_cases q : c = d
            · rw [decide_eq_true q, ← q, this]; exact beq_self_eq_true _
            · rw [decide_eq_false q]
              exact beq_false_of_ne fun e => q (UInt8.toNat.inj (by omega))
          have e1 := cmp ((⟨#[48, 49, 50, 51, 52, 53, 54, 55, 56, 57, 65, 66, 67, 68, 69, 70]⟩ : ByteArray)[j]'hjU)
          have e2 := cmp ((⟨#[48, 49, 50, 51, 52, 53, 54, 55, 56, 57, 97, 98, 99, 100, 101, 102]⟩ : ByteArray)[j]'hjL)
          clear cmp eU eL
          by_cases m1 : c = (⟨#[48, 49, 50, 51, 52, 53, 54, 55, 56, 57, 65, 66, 67, 68, 69, 70]⟩ : ByteArray)[j]'hjU
          · rw [decide_eq_true m1] at e1
            rw [if_pos (.inl m1)] at hD
            have HD := Lib.hid hD
            clear m1 hD e2
            go_upto_region 9 with fail
            refine wp_region_lw (by kernel_rfl) (by kernel_rfl) ?_
            repeat (go_big_quiet_step (first | exact rfl))
            refine wpQuiet_nil ?_
            rintro ⟨w3, hb3⟩
            dsimp only
            have hb4 := HB2.out.trans (hb3.mono HB2.out.size)
            have HB4 := Lib.hid hb4
            clear hb3 hb4 HB2
            go_wp2_with fail
            go_roundw
            case rel => exact ⟨j + 1, by omega, by go_num, by rw [HD.out], HB4.out⟩
            case measure => simp [intOf]; omega
          by_cases m2 : c = (⟨#[48, 49, 50, 51, 52, 53, 54, 55, 56, 57, 97, 98, 99, 100, 101, 102]⟩ : ByteArray)[j]'hjL
          · rw [decide_eq_false m1] at e1
            rw [decide_eq_true m2] at e2
            rw [if_pos (.inr m2)] at hD
            have HD := Lib.hid hD
            clear m1 m2 hD
            go_upto_region 9 with fail
            refine wp_region_lw (by kernel_rfl) (by kernel_rfl) ?_
            repeat (go_big_quiet_step (first | exact rfl))
            refine wpQuiet_nil ?_
            rintro ⟨w3, hb3⟩
            dsimp only
            have hb4 := HB2.out.trans (hb3.mono HB2.out.size)
            have HB4 := Lib.hid hb4
            clear hb3 hb4 HB2
            go_wp2_with fail
            go_roundw
            case rel => exact ⟨j + 1, by omega, by go_num, by rw [HD.out], HB4.out⟩
            case measure => simp [intOf]; omega
          · rw [decide_eq_false m1] at e1
            rw [decide_eq_false m2] at e2
            rw [if_neg (by rintro (h | h); exact m1 h; exact m2 h)] at hD
            have HD := Lib.hid hD
            clear m1 m2 hD
            go_upto_region 9 with fail
            refine wp_region_lw (by kernel_rfl) (by kernel_rfl) ?_
            repeat (go_big_quiet_step (first | exact rfl))
            refine wpQuiet_nil ?_
            rintro ⟨w3, hb3⟩
            dsimp only
            have hb4 := HB2.out.trans (hb3.mono HB2.out.size)
            have HB4 := Lib.hid hb4
            clear hb3 hb4 HB2
            go_wp2_with fail
            go_roundw
            case rel => exact ⟨j + 1, by omega, by go_num, by rw [HD.out], HB4.out⟩
            case measure => simp [intOf]; omega
        · have hj16' : j = 16 := by omega
          subst hj16'
          rw [hxD_all]
          have how2 := HOW.out.below hb2 (fun g hg => (HOW.out.lt g hg).2)
          have hbw2 := HBW.out.trans (hb2.mono HBW.out.size)
          have hrg := hxD_rng c 16
          rw [hxD_all] at hrg
          have hkl : k < s.data.toList.length := by rw [← Lib.size_eq]; exact hlt
          have hgc : s.data.toList[k] = c := by rw [ba_get s k hlt]; exact HC.out
          have htk : s.data.toList.take (k + 1) = s.data.toList.take k ++ [c] := by rw [List.take_add_one, List.getElem?_eq_getElem hkl, hgc]; rfl
          have htl : (s.data.toList.take k).length = k := by rw [List.length_take]; omega
          have hev := hxZ_even c (s.data.toList.take k)
          have hov := hxZ_odd c (s.data.toList.take k)
          rw [← htk, htl, ← HZX.out] at hev hov
          obtain ⟨v, hv⟩ : ∃ v, v = hxV (gtC c) := ⟨_, rfl⟩
          rw [← hv] at hrg hev hov ⊢
          have HEV := Lib.hid hev
          have HOV := Lib.hid hov
          clear htk htl hev hov
          have hsn := all_snoc hkl (fun c => decide (0 ≤ hxV (gtC c)))
          rw [hgc, HALL.out, ← hv, Bool.true_and] at hsn
          have HBW2 := Lib.hid hbw2
          have HOW2 := Lib.hid how2
          have hsz2 : w.heap.size ≤ wr.heap.size := hbw2.size
          clear hb2 hbw2 how2 hj
          by_cases v0 : v < 0
          · have hf : ok = false := by
              rw [HOK.out, hex_okv]
              have h1 : s.data.toList.all (fun c => decide (0 ≤ hxV (gtC c))) = false := by
                have h2 := List.take_append_drop (k + 1) s.data.toList
                rw [← h2, List.all_append, hsn, decide_eq_false (by omega), Bool.false_and]
              rw [h1, Bool.false_and]
            subst hf
            clear hsn hgc hkl hv hrg
            go_wp2_with fail
            go_ret2
            exact ⟨_, rfl, HBW2.out, fun h => (by cases h)⟩
          · have v1 : 0 ≤ v := by omega
            have v2 : v < 16 := by omega
            rw [decide_eq_true v1] at hsn
            have HSN := Lib.hid hsn
            clear hsn hgc hkl hv hrg v0
            have k1 : IntKind.i64.wrap (16 * v) = 16 * v := by rw [IntKind.wrap_i64]; omega
            have k2 : IntKind.u8.wrap (16 * v) = 16 * v := by rw [IntKind.wrap_u8]; omega
            have k3 : IntKind.u8.wrap v = v := by rw [IntKind.wrap_u8]; omega
            have hz30 : zs.length ≤ 1000000000 := by have := HZL.out; omega
            have HZ30 := Lib.hid hz30
            clear hz30
            by_cases par : k % 2 = 0
            · have p0 : ((k : Int) % 2 == 0) = true := by rw [beq_iff_eq]; omega
              have HPAR := Lib.hid par
              clear par
              go_wp2_with (at_builtin; refine wpList_appJ rfl (.tmp 38) (.tmp 42) _ rfl .u8 w.heap.size 5 _ 1 Tryz.underlying65 Tryz.infoU8 rfl _ zs rfl (HOW2.out.alloc _) _ 1 1 [16 * v] rfl (SlI.one _ _ _ _) (by simp) (by have := HZ30.out; omega) (by have := HZ30.out; omega) (by simp; omega) ?_; intro v4 w4 ow4 hg4 st4; (have OW4 := Lib.hid ow4); (have HG4 := Lib.hid hg4); clear ow4 hg4 st4)
              go_roundw
              case rel =>
                refine ⟨k + 1, zs ++ [16 * v], by omega, by go_num, by rw [List.length_append]; have := HZL.out; have := HPAR.out; simp; omega, (HEV.out HPAR.out).symm, fun _ => ⟨v, v1, v2, ?_⟩, OW4.out, (HBW2.out.alloc (by simpa using hsz2) _).grown HG4.out (by simp; omega) (fun g e => ?_), HSN.out⟩
                · have := HZL.out
                  have := HPAR.out
                  rw [show (k + 1) / 2 = zs.length by omega]
                  simp
                · exact (HOW2.out.lt g e).1
              case measure => simp [intOf]; omega
            · have p0 : ((k : Int) % 2 == 0) = false := by apply beq_false_of_ne; omega
              obtain ⟨a, ha0, ha1, ha⟩ := HOD.out (by omega)
              have hzk : k / 2 < zs.length := by have := HZL.out; omega
              obtain ⟨ad, cap, rfl, hsl, _⟩ := HOW2.out.sl
              obtain ⟨g, rfl, hg1, hg2, hcell, hfrz, hset⟩ := Ow.at HOW2.out (k / 2) hzk
              rw [ha] at hcell
              have HA := Lib.hid ha
              have k4 : IntKind.u8.wrap (16 * a + v) = 16 * a + v := by rw [IntKind.wrap_u8]; omega
              have q1 : ((k : Int) / 2).toNat = k / 2 := by omega
              have q2 : ((k / 2 : Nat) : Int) = (k : Int) / 2 := by omega
              have q3 : (k : Int) / 2 < (zs.length : Int) := by omega
              have q4 : 0 ≤ (k : Int) / 2 := by omega
              have hs2 := hset (16 * a + v)
              have HS2 := Lib.hid hs2
              have hB3 : Below w.heap.size w (wr.setCell ⟨g, k / 2, none⟩ (.int .u8 (16 * a + v))) := HBW2.out.setCell (p := ⟨g, k / 2, none⟩) hg1 _
              have HB3 := Lib.hid hB3
              have HPAR := Lib.hid par
              clear hset hs2 hB3 hsl ha par hg1 hg2 hzk
              go_wp2_with fail
              go_roundw
              case rel => exact ⟨k + 1, zs.set (k / 2) (16 * a + v), by omega, by go_num, by rw [List.length_set]; have := HZL.out; have := HPAR.out; omega, by rw [HOV.out (by have := HPAR.out; omega), HA.out], fun h => by have := HPAR.out; omega, HS2.out, HB3.out, HSN.out⟩
              case measure => simp [intOf]; omega
    · have hks : k = s.size := by omega
      have hokv : ok = decide (s.size % 2 = 0) := by
        have h1 := HALL.out
        rw [List.take_of_length_le (by rw [← Lib.size_eq]; omega)] at h1
        rw [HOK.out, hex_okv, h1, Bool.true_and, ← Lib.size_eq]
      have hzf : zs = hxZ s.data.toList := by rw [HZX.out, List.take_of_length_le (by rw [← Lib.size_eq]; omega)]
      have HZF := Lib.hid hzf
      clear HOK HALL hzf
      by_cases par : s.size % 2 = 0
      · rw [decide_eq_true par] at hokv
        subst hokv
        have p0 : ((s.size : Int) % 2 == 0) = true := by rw [beq_iff_eq]; omega
        clear par
        go_wp2_with fail
        go_ret2
        exact ⟨_, rfl, HBW.out, by rw [← HZF.out]; exact HOW.out⟩
      · rw [decide_eq_false par] at hokv
        subst hokv
        have p0 : ((s.size : Int) % 2 == 0) = false := by apply beq_false_of_ne; omega
        clear par
        go_wp2_with fail
        go_ret2
        exact ⟨_, rfl, HBW.out, fun h => (by cases h)⟩
theorem hexed_T (s : ByteArray) (w : World) (hs : s.size ≤ 65536) : Calls Tryz.prog 42 #[.string s] w fun e w' => ∃ V, e = .returned (.tuple #[V, .bool (hexP (gtP s.data.toList)).isSome]) ∧ Below w.heap.size w w' :=
  (hexed_V s w hs).mono fun e w' ⟨V, h1, h2, _⟩ => ⟨V, h1, h2⟩
end Go.Proofs.YtlhcejbimlilaaaGreatDoor
