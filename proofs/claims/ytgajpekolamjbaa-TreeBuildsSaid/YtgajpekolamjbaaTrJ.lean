/- Are two slices of quads the same; the walk of TreeBuilds. -/
import Derived.Test.YtgajpekolamjbaaTrI
import Derived.Test.YtgajpekolamjbaaTrQ
import Derived.Test.YtgajpekolamjbaaTrO
import Derived.Test.YtgajpekolamjbaaSamesameBytes18
set_option linter.unusedVariables false
set_option linter.unusedSimpArgs false
namespace Go.Tk
open Go Go.RowKit
theorem slQ_one {e : TypeId} (w : World) (q : Qd) : SlQ (w.alloc (.cells (qcs q).toArray e)) (some ⟨w.heap.size, 0, none⟩) 1 1 [q] :=
  ⟨rfl, Nat.le_refl _, by omega, fun i hi => ⟨w.heap.size, 0, rfl, fun j v hv => by
    obtain rfl : i = 0 := by omega
    rw [World.cell?_alloc_at _ _ _ _ rfl]
    simpa using hv⟩⟩
end Go.Tk
namespace Go.Proofs.Ytgajpekolamjbaa
open Go.RowKit Go.Tk
theorem buildTO_len (L : List Qd) (most : Int) : (buildTO L most).length ≤ 90000000 := by
  unfold buildTO
  split
  · next h =>
    have hc : chkT L = 0 := by
      unfold buildTE at h
      split at h
      · exact h
      · next h2 => simpa using h2
    have := secP_len (chk_right hc).len 4
    rw [tree_sec]; omega
  · simp
theorem num18_calls (w : World) (x : Int) : Calls Try.prog 11 #[.int .i64 x] w fun e w' => e = .returned (.int .i64 x) ∧ w = w' := by
  go_enter Try.func11, Try.ntmps11
  go_wp2
  go_ret
  exact ⟨rfl, rfl⟩
set_option maxRecDepth 100000 in
theorem sameIds_yes (w : World) (a1 : Option Addr) (n c1 : Nat) (a2 : Option Addr) (c2 : Nat) (L : List Qd) (h1 : SlQ w a1 n c1 L) (h2 : SlQ w a2 n c2 L) :
    Calls Try.prog 13 #[.slice a1 n c1, .slice a2 n c2] w fun e w' => e = .returned (.bool true) ∧ ∃ m, w' = w.drewN m := by
  have hle := h1.le
  have hmx := h1.max
  have H1 := Lib.hid h1
  have H2 := Lib.hid h2
  have SZ := Lib.hid Try.sizeIds
  clear h1 h2
  go_enter Try.func13, Try.ntmps13
  go_wp2
  go_loopw [5] (fun iv wr => ∃ (i m : Nat), iv = .int .i64 (i : Nat) ∧ i ≤ n ∧ wr = w.drewN m) (fun iv _ => n - (intOf iv).toNat)
  case atStart => exact ⟨0, 0, rfl, Nat.zero_le _, rfl⟩
  case round =>
    obtain ⟨i, m, rfl, hi, rfl⟩ := hrel
    by_cases hlt : i < n
    · obtain ⟨b, o, rfl, hc⟩ := H1.out.cell i hlt
      obtain ⟨b', o', rfl, hc'⟩ := H2.out.cell i hlt
      obtain ⟨q, hq⟩ : ∃ q, q = L.getD i default := ⟨_, rfl⟩
      rw [← hq] at hc hc'
      have HC := Lib.hid hc
      have HC' := Lib.hid hc'
      clear hq hc hc'
      go_upto_region 6 with fail
      refine wp_region_quiet_tail (fun w' => ∃ n, w' = World.drewN _ n) 8 (by kernel_rfl) (by kernel_rfl) ⟨1, rfl⟩ ?_
      simp only [List.take_succ_cons, List.take_zero, List.drop_succ_cons, List.drop_zero]
      refine wq_val (.slice (some ⟨b, o, none⟩) n c1) rfl (fun w' _ => by simp [go_sem]) ?_
      refine wq_val (.int .i64 (i : Nat)) rfl (fun w' _ => by simp [go_sem]) ?_
      refine wq_val (.pointer (some ⟨b, o + i * 4, none⟩)) rfl (fun w' _ => by simp [go_sem, hlt]) ?_
      refine wq_mid rfl 24 (.tmp 19) rfl b (o + i * 4) (by simp [go_sem]) (qcs q) _ (fun w' h => by obtain ⟨m2, rfl⟩ := h; exact fun j v hv => HC.out j v hv) Try.underlying24 rfl SZ.out ?_
      refine wq_val (.slice (some ⟨b', o', none⟩) n c2) rfl (fun w' _ => by simp [go_sem]) ?_
      refine wq_val (.int .i64 (i : Nat)) rfl (fun w' _ => by simp [go_sem]) ?_
      refine wq_val (.pointer (some ⟨b', o' + i * 4, none⟩)) rfl (fun w' _ => by simp [go_sem, hlt]) ?_
      refine wq_mid rfl 24 (.tmp 23) rfl b' (o' + i * 4) (by simp [go_sem]) (qcs q) _ (fun w' h => by obtain ⟨m2, rfl⟩ := h; exact fun j v hv => HC'.out j v hv) Try.underlying24 rfl SZ.out ?_
      refine wpQuiet_nil ?_
      rintro _ ⟨m2, rfl⟩
      have heq := fun w => neqQ w q q
      simp only [decide_true, Bool.not_true] at heq
      go_wp2_with fail
      go_roundw
      case rel => exact ⟨i + 1, _, by go_num, by omega, rfl⟩
      case measure => simp [intOf]; omega
    · obtain rfl : i = n := by omega
      go_wp2
      go_ret
      exact ⟨rfl, _, rfl⟩
set_option maxRecDepth 100000 in
set_option maxHeartbeats 4000000 in
theorem treebuilds_go (w : World) (a : Option Addr) (n c : Nat) (L : List Qd) (h : SlQ w a n c L) (hnil : a = none → c = 0) (hqd : ∀ q ∈ L, QdOk q) (hc8 : c ≤ 4398046510976) (most : Int) (hmw : (Lit.int .i64 most).wf = true) :
    Calls Try.prog 3 #[.slice a n c, .int .i64 most] w fun e w' => e = .returned (.bool true) ∧ Below w.heap.size w w' := by
  have hm := wf_i64 hmw
  have hle := h.le
  have hmx := h.max
  have HS := Lib.hid h
  have HL := Lib.hid h.len
  have HN := Lib.hid hnil
  clear h hnil hqd hmw
  go_enter Try.func3, Try.ntmps3
  have own0 : OwQ 24 w.heap.size (w.alloc (.cells #[] 24)) (.slice (some ⟨w.heap.size, 0, none⟩) 0 0) [] := OwQ.new [] (Nat.le_refl _) (by simp)
  have OW0 := Lib.hid own0
  have hs0 := HS.out.keep ((Below.refl w.heap.size w).alloc (Nat.le_refl _) (.cells #[] 24))
  have HS0 := Lib.hid hs0
  clear own0 hs0
  go_upto_region 2 with (first
    | (at_builtin; (refine wpList_appQ rfl (.tmp 14) (.tmp 15) _ rfl w.heap.size 24 _ Try.underlying22 infoIds rfl _ [] rfl OW0.out _ _ _ L rfl HS0.out HN.out (by simp; omega) (by simp) ?_; intro v2 w2 ow2 hg2 st2; rw [List.nil_append] at ow2; (have OW2 := Lib.hid ow2); (have B2 := Lib.hid (((Below.refl w.heap.size w).alloc (Nat.le_refl _) (.cells #[] 24)).trans (below_of_grown hg2 (by simp) (fun k hk => (OW0.out.lt k hk).1)))); (have z2 := B2.out.size); clear ow2 hg2 st2))
    | (at_builtin; (refine wpList_appQ rfl (.tmp 16) (.tmp 18) _ rfl w.heap.size 24 _ Try.underlying22 infoIds rfl _ L rfl (OW2.out.alloc _) _ _ _ [⟨-7, 0, 0, 0⟩] rfl (slQ_one w2 ⟨-7, 0, 0, 0⟩) (fun e => by cases e) (by rw [HL.out]; omega) (by simp; omega) ?_; intro v3 w3 ow3 hg3 st3; (have OW3 := Lib.hid ow3); (have B3 := Lib.hid ((B2.out.alloc z2 (.cells (qcs ⟨-7, 0, 0, 0⟩).toArray 24)).trans (below_of_grown hg3 (by simp; omega) (fun k hk => (OW2.out.lt k hk).1)))); (have z3 := B3.out.size); clear ow3 hg3 st3)))
  obtain ⟨LH, hLH⟩ : ∃ LH, LH = L ++ [(⟨-7, 0, 0, 0⟩ : Qd)] := ⟨_, rfl⟩
  have hlh : LH.length = n + 1 := by rw [hLH, List.length_append, HL.out]; rfl
  have how3 := OW3.out
  rw [← hLH] at how3
  obtain ⟨oa, oc, hv3, sl3, _⟩ := how3.sl
  rw [hlh] at hv3 sl3
  subst hv3
  have sF : SlQ w3 oa n oc L := by
    have := sl3.front n (by omega)
    rw [hLH, List.take_left' HL.out] at this
    exact this
  obtain ⟨ob, oo, hoa, hocr⟩ := sl3.cell n (by omega)
  have hhol : LH.getD n default = ⟨-7, 0, 0, 0⟩ := by rw [hLH, ← HL.out]; simp
  rw [hhol] at hocr
  have hoc : w3.cell? ⟨ob, oo + n * 4, none⟩ = some (.int .i64 (-7)) := hocr 0 _ rfl
  subst hoa
  have hcap3 := sl3.le
  have hmax3 := sl3.max
  obtain ⟨E, hE⟩ : ∃ E, E = buildTE L most := ⟨_, rfl⟩
  obtain ⟨out, hout⟩ : ∃ out, out = buildTO L most := ⟨_, rfl⟩
  have SF := Lib.hid sF
  have HE := Lib.hid hE
  have HO := Lib.hid hout
  have HOC := Lib.hid hoc
  have HS3 := Lib.hid (HS.out.keep B3.out)
  clear hE hout sF sl3 how3 hLH hlh hhol hoc hocr
  go_upto_region 3 with (go_at_call 9; (refine (tbuild_calls w3 _ n oc L SF.out most hm).mono ?_; rintro e w4 ⟨va, rfl, owa, b4⟩; rw [← HE.out]; rw [← HO.out] at owa; (have OWA := Lib.hid owa); (have B4 := Lib.hid b4); (have z4 := b4.size); obtain ⟨aa, hva, sa, na⟩ := OwC.slN8 owa; subst hva; (have SA := Lib.hid sa); (have NA := Lib.hid na); clear owa b4 sa na))
  have SF4 := Lib.hid (SF.out.keep B4.out)
  go_upto_region 4 with (go_at_call 9; (refine (tbuild_calls w4 _ n oc L SF4.out most hm).mono ?_; rintro e w5 ⟨vb, rfl, owb, b5⟩; rw [← HE.out]; rw [← HO.out] at owb; (have OWB := Lib.hid owb); (have B5 := Lib.hid b5); (have z5 := b5.size); obtain ⟨ba, hvb, sb, nb⟩ := OwC.slN8 owb; subst hvb; (have SB := Lib.hid sb); clear owb b5 sb nb))
  have HS5 := Lib.hid ((HS3.out.keep B4.out).keep B5.out)
  go_upto_region 5 with (go_at_call 10; (refine (rbuildT_calls w5 _ n c L HS5.out most hm).mono ?_; rintro e w6 ⟨vw, rfl, oww, b6⟩; rw [← HE.out]; rw [← HO.out] at oww; (have OWW := Lib.hid oww); (have B6 := Lib.hid b6); (have z6 := b6.size); obtain ⟨wa, wc, hvw, sw, _⟩ := oww.sl; subst hvw; (have SW := Lib.hid sw); clear oww b6 sw))
  have SA6 := Lib.hid ((SA.out.keep B5.out).keep B6.out)
  have SB6 := Lib.hid (SB.out.keep B6.out)
  have SF6 := Lib.hid ((SF4.out.keep B5.out).keep B6.out)
  have HS6 := Lib.hid (HS5.out.keep B6.out)
  have oc6 : w6.cell? ⟨ob, oo + n * 4, none⟩ = some (.int .i64 (-7)) := by
    have hl := block_lt_of_cell HOC.out
    exact (B6.out.cell (p := ⟨ob, oo + n * 4, none⟩) (by have : ob < w3.heap.size := hl; show ob < _; omega)).trans ((B5.out.cell (p := ⟨ob, oo + n * 4, none⟩) (by have : ob < w3.heap.size := hl; show ob < _; omega)).trans ((B4.out.cell (p := ⟨ob, oo + n * 4, none⟩) hl).trans HOC.out))
  have OC6 := Lib.hid oc6
  clear oc6
  go_upto_region 7 with (first
    | (go_at_call 11; refine (num18_calls _ _).mono ?_; rintro e x ⟨rfl, rfl⟩)
    | (go_at_call 12; (with_reducible refine (sameBytes18_calls w6 _ _ _ out _ _ _ out SA6.out SW.out).mono ?_); rw [sameB_yes rfl]; rintro e w7 ⟨rfl, m7, hm7⟩; (have B7 : Below w6.heap.size w6 w7 := by rw [hm7]; exact below_drewN (Below.refl _ _) m7); (have HB7 := Lib.hid B7); (have z7 := B7.size); clear hm7 B7)
    | (go_at_call 12; (with_reducible refine (sameBytes18_calls w7 _ _ _ out _ _ _ out (SB6.out.keep HB7.out) (SW.out.keep HB7.out)).mono ?_); rw [sameB_yes rfl]; rintro e w8 ⟨rfl, m8, hm8⟩; (have B8 : Below w6.heap.size w6 w8 := by rw [hm8]; exact below_drewN HB7.out m8); (have HB8 := Lib.hid B8); (have z8 := B8.size); clear hm8 B8)
    | (go_at_call 13; (with_reducible refine (sameIds_yes w8 _ n _ _ _ L (SF6.out.keep HB8.out) (HS6.out.keep HB8.out)).mono ?_); rintro e w9 ⟨rfl, m9, hm9⟩; (have B9 : Below w6.heap.size w6 w9 := by rw [hm9]; exact below_drewN HB8.out m9); (have HB9 := Lib.hid B9); (have z9 := B9.size); (have q9 := (B9.cell (p := ⟨ob, oo + n * 4, none⟩) (block_lt_of_cell OC6.out)).trans OC6.out); clear hm9 B9))
  have HA9 := Lib.hid ((((OWA.out).kept2 (Kept.of_below (B5.out)) (fun g hg => by have := (OwC.lt OWA.out g hg).2; omega)).kept2 (Kept.of_below B6.out) (fun g hg => by have := (OwC.lt OWA.out g hg).2; omega)).kept2 (Kept.of_below HB9.out) (fun g hg => by have := (OwC.lt OWA.out g hg).2; omega))
  have SB9 := Lib.hid (SB6.out.keep HB9.out)
  have SW9 := Lib.hid (SW.out.keep HB9.out)
  have hBw9 : Below w.heap.size w w9 := (((B3.out.trans (B4.out.mono z3)).trans (B5.out.mono (by omega))).trans (B6.out.mono (by omega))).trans (HB9.out.mono (by omega))
  have HBW9 := Lib.hid hBw9
  clear hBw9
  obtain ⟨a', ac, hq, how⟩ := HA9.out
  have hq1 : a' = aa := by injection hq with hq; exact hq.symm
  subst hq1
  have hol : out.length ≤ 9223372036854775807 := by have := how.max; omega
  have HOW := Lib.hid how
  clear how hq
  go_wp2_with fail
  go_loopw [12] (fun iv wr => ∃ (i : Nat) (zs : List Int), iv = .int .i64 (i : Nat) ∧ i ≤ out.length ∧ zs.length = out.length ∧ Ow .u8 5 w3.heap.size wr (.slice a' out.length ac) zs ∧ Kept (fun k => Value.ownBlock (.slice a' out.length out.length) = some k) w9 wr) (fun iv _ => out.length - (intOf iv).toNat)
  case atStart => exact ⟨0, out, rfl, Nat.zero_le _, rfl, HOW.out, Kept.refl _ _⟩
  case round =>
    obtain ⟨i, zs, rfl, hi, hzl, hz, hk⟩ := hrel
    have HZL := Lib.hid hzl
    by_cases hlt : i < out.length
    · obtain ⟨g, rfl, hg1, hg2, hgc, hgf, hset⟩ := hz.at i (by omega)
      have HSET := Lib.hid (hset 9)
      have HK := Lib.hid hk
      clear hset hk hz hzl
      go_wp2
      refine ⟨⟨i + 1, zs.set i 9, by go_num, by omega, by rw [List.length_set]; exact HZL.out, HSET.out, HK.out.setCell (p := ⟨g, i, none⟩) (.inl rfl) _⟩, by simp [intOf]; omega⟩
    · obtain rfl : i = out.length := by omega
      have hoc : OwC .u8 5 w3.heap.size wr (.slice a' out.length out.length) zs := ⟨a', ac, by rw [hzl], by rw [hzl]; exact hz⟩
      have hap : ∀ k, Value.ownBlock (.slice a' out.length out.length) = some k → k < w4.heap.size := fun k hk => (OwC.lt OWA.out k hk).2
      have hbp : ∀ x, ba = some x → ¬ Value.ownBlock (.slice a' out.length out.length) = some x.block := fun x hx hs => by
        have h1 := hap _ hs
        have h2 := (OwC.lt OWB.out x.block (by rw [hx]; rfl)).1
        omega
      have hwp : ∀ x, wa = some x → ¬ Value.ownBlock (.slice a' out.length out.length) = some x.block := fun x hx hs => by
        have h1 := hap _ hs
        have h2 := (OWW.out.lt x.block (by rw [hx]; rfl)).1
        omega
      have hol3 : out.length ≤ 90000000 := by rw [HO.out]; exact buildTO_len L most
      have hzl2 : zs.length ≤ 90000000 := by omega
      have HOCC := Lib.hid hoc
      have HBP := Lib.hid hbp
      have HWP := Lib.hid hwp
      have HAP := Lib.hid hap
      have HK := Lib.hid hk
      have z9x := hk.size
      clear hoc hbp hwp hap hk hz hzl
      rename World => w10
      go_wp2_with fail
      go_loopw [6, 13] (fun v iv wx => ∃ (k : Nat) (ys : List Int), iv = .int .i64 (k : Nat) ∧ k ≤ 40 ∧ ys.length ≤ 90000000 + k ∧ (OwC .u8 5 w3.heap.size wx v ys ∨ Ow .u8 5 w9.heap.size wx v ys) ∧ Kept (fun k => Value.ownBlock (.slice a' out.length out.length) = some k) w9 wx) (fun _ iv _ => 40 - (intOf iv).toNat)
      case atStart => exact ⟨0, zs, rfl, by omega, by omega, .inl HOCC.out, HK.out⟩
      case round =>
        obtain ⟨k, ys, rfl, hk40, hyl, hor, hkx⟩ := hrel
        have hzx := hkx.size
        by_cases hkl : k < 40
        · rcases hor with hoc | how
          · have HX := Lib.hid (hoc.kept2 ((Kept.refl (fun _ => False) wr).alloc (.cells #[.int .u8 8] 5)) (fun _ _ h => h))
            have HKX := Lib.hid hkx
            clear hoc hkx
            go_wp2_with (at_builtin; refine wpList_appC rfl (.tmp 91) (.tmp 92) _ rfl .u8 w3.heap.size 5 _ 1 Try.underlying25 Try.infoU8 rfl _ ys rfl HX.out _ 1 1 _ rfl (SlI.one _ _ _ _) (by omega) (by omega) (by omega) ?_; intro v' w' ow' hg'; (have OW' := Lib.hid ow'); (have KX' := Lib.hid ((HKX.out.alloc (.cells #[.int .u8 8] 5)).trans (Kept.of_grown hg') (fun i hi => by cases hi))); clear ow' hg')
            exact ⟨⟨k + 1, _, by go_num, by omega, by simp; omega, .inr (OW'.out.mono (by simp; omega)), KX'.out⟩, by simp [intOf]; omega⟩
          · have HX := Lib.hid how
            have HKX := Lib.hid hkx
            clear how hkx
            go_wp2_with (at_builtin; refine wpList_appJ rfl (.tmp 91) (.tmp 92) _ rfl .u8 w9.heap.size 5 _ 1 Try.underlying25 Try.infoU8 rfl _ ys rfl (HX.out.alloc _) _ 1 1 _ rfl (SlI.one _ _ _ _) (by simp) (by omega) (by omega) (by simp; omega) ?_; intro v' w' ow' hg' st'; (have OW' := Lib.hid ow'); (have KX' := Lib.hid ((HKX.out.alloc (.cells #[.int .u8 8] 5)).trans (Kept.of_grown hg') (fun i hi => .inr (HX.out.lt i hi).1))); clear ow' hg' st')
            exact ⟨⟨k + 1, _, by go_num, by omega, by simp; omega, .inr OW'.out, KX'.out⟩, by simp [intOf]; omega⟩
        · obtain rfl : k = 40 := by omega
          have SBX := Lib.hid (SB9.out.kept hkx HBP.out)
          have SWX := Lib.hid (SW9.out.kept hkx HWP.out)
          have hbx : Below w.heap.size w wr := HBW9.out.trans (Kept.below hkx (by omega) (fun k hk => by have := (OwC.lt OWA.out k hk).1; omega))
          have HBX := Lib.hid hbx
          clear hor hkx hbx
          go_wp2_with (go_at_call 12; (with_reducible refine (sameBytes18_calls _ _ _ _ out _ _ _ out SBX.out SWX.out).mono ?_); rw [sameB_yes rfl]; rintro e wy ⟨rfl, m, rfl⟩)
          go_ret
          exact ⟨rfl, below_drewN HBX.out m⟩
end Go.Proofs.Ytgajpekolamjbaa
