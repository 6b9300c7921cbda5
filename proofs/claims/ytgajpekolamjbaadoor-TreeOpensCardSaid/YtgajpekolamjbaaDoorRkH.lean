/- Whole of the document: the vector's bytes. -/
import Derived.Test.YtgajpekolamjbaaDoorRkR
import Derived.Deep.CutBlock
set_option linter.unusedVariables false
set_option linter.unusedSimpArgs false
namespace Go.Tk
open Go Go.RowKit
/-- Two rows of the call's own that are not one. -/
def Apart (v u : Value) : Prop := ∀ g, v.ownBlock = some g → u.ownBlock ≠ some g
theorem Apart.symm {v u : Value} (h : Apart v u) : Apart u v := fun g hg hv => h g hv hg
theorem Apart.nil (n c : Nat) (u : Value) : Apart (.slice none n c) u := fun g hg => by simp [Value.ownBlock] at hg
/-- Three rows of the call's own. -/
structure T3 (e base : Nat) (w : World) (v1 v2 v3 : Value) (z1 z2 z3 : List Int) : Prop where
  o1 : Ow .u8 e base w v1 z1
  o2 : Ow .u8 e base w v2 z2
  o3 : Ow .u8 e base w v3 z3
  d12 : Apart v1 v2
  d13 : Apart v1 v3
  d23 : Apart v2 v3
theorem T3.rot {e base w v1 v2 v3 z1 z2 z3} (h : T3 e base w v1 v2 v3 z1 z2 z3) : T3 e base w v2 v3 v1 z2 z3 z1 := ⟨h.o2, h.o3, h.o1, h.d23, h.d12.symm, h.d13.symm⟩
theorem T3.below {e base w w' v1 v2 v3 z1 z2 z3} (h : T3 e base w v1 v2 v3 z1 z2 z3) (hb : Below w.heap.size w w') : T3 e base w' v1 v2 v3 z1 z2 z3 :=
  ⟨h.o1.below hb (fun g hg => (h.o1.lt g hg).2), h.o2.below hb (fun g hg => (h.o2.lt g hg).2), h.o3.below hb (fun g hg => (h.o3.lt g hg).2), h.d12, h.d13, h.d23⟩
theorem Apart.step {w : World} {v v' u : Value} {k : IntKind} {e base : Nat} {z : List Int} (h : Apart v u) (hu : Ow k e base w u z) (hs : OwnStep w v v') : Apart v' u := fun g hg hv => by
  rcases hs with hs | ⟨g', e', hg'⟩
  · rw [hs] at hg; exact h g hg hv
  · rw [e'] at hg
    obtain rfl := Option.some.inj hg
    have := (hu.lt _ hv).2
    omega
theorem Ow.apart {k : IntKind} {e base : Nat} {w w' : World} {v u : Value} {z : List Int} (hu : Ow k e base w u z) (ha : Apart v u) (hg : w.grownBy w' v.ownBlock) : Ow k e base w' u z :=
  hu.kept2 (Kept.of_grown hg) (fun g h1 h2 => ha g h2 h1)
theorem T3.app {e base w w' v1 v2 v3 z1 z2 z3 v1' z1'} (h : T3 e base w v1 v2 v3 z1 z2 z3) (ho : Ow .u8 e base w' v1' z1') (hg : w.grownBy w' v1.ownBlock) (hs : OwnStep w v1 v1') : T3 e base w' v1' v2 v3 z1' z2 z3 :=
  ⟨ho, h.o2.apart h.d12 hg, h.o3.apart h.d13 hg, h.d12.step h.o2 hs, h.d13.step h.o3 hs, h.d23⟩
theorem ow_to {k : IntKind} {e base : Nat} {w : World} {v : Value} {zs xs : List Int} (h : Ow k e base w v zs) (hx : zs = xs) : Ow k e base w v xs := by subst hx; exact h
theorem t3_to {e base w v1 v2 v3 z1 z2 z3 y1 y2 y3} (h : T3 e base w v1 v2 v3 z1 z2 z3) (h1 : y1 = z1) (h2 : y2 = z2) (h3 : y3 = z3) : T3 e base w v1 v2 v3 y1 y2 y3 := by subst h1 h2 h3; exact h
theorem cat_app {k : Nat} {L : List Nat} {v : Nat} : nums (catB k L) ++ nums (leB v k) = nums (catB k (L ++ [v])) := by rw [← nums_append, cat_snoc]
theorem t3_sl {k : IntKind} {e base : Nat} {w : World} {a : Option Addr} {n c : Nat} {z : List Int} (h : Ow k e base w (.slice a n c) z) : SlI k w a n c z := by
  obtain ⟨a', c', he, hs, _⟩ := h.sl
  simp at he
  obtain ⟨rfl, rfl, rfl⟩ := he
  exact hs
theorem t3_nil {k : IntKind} {e base : Nat} {w : World} {a : Option Addr} {n c : Nat} {z : List Int} (h : Ow k e base w (.slice a n c) z) (ha : a = none) : c = 0 := by
  subst ha; exact Ow.nil_cap h
/-- A row that grows beside three. -/
structure B4 (e base : Nat) (w : World) (b : Value) (zb : List Int) (v1 v2 v3 : Value) (z1 z2 z3 : List Int) : Prop where
  o : Ow .u8 e base w b zb
  t : T3 e base w v1 v2 v3 z1 z2 z3
  a1 : Apart b v1
  a2 : Apart b v2
  a3 : Apart b v3
theorem B4.below {e base w w' b zb v1 v2 v3 z1 z2 z3} (h : B4 e base w b zb v1 v2 v3 z1 z2 z3) (hb : Below w.heap.size w w') : B4 e base w' b zb v1 v2 v3 z1 z2 z3 :=
  ⟨h.o.below hb (fun g hg => (h.o.lt g hg).2), h.t.below hb, h.a1, h.a2, h.a3⟩
theorem B4.app {e base w w' b zb b' zb' v1 v2 v3 z1 z2 z3} (h : B4 e base w b zb v1 v2 v3 z1 z2 z3) (ho : Ow .u8 e base w' b' zb') (hg : w.grownBy w' b.ownBlock) (hs : OwnStep w b b') : B4 e base w' b' zb' v1 v2 v3 z1 z2 z3 :=
  ⟨ho, ⟨h.t.o1.apart h.a1 hg, h.t.o2.apart h.a2 hg, h.t.o3.apart h.a3 hg, h.t.d12, h.t.d13, h.t.d23⟩, h.a1.step h.t.o1 hs, h.a2.step h.t.o2 hs, h.a3.step h.t.o3 hs⟩
theorem B4.app' {e base w w' b zb b' zb' v1 v2 v3 z1 z2 z3} (h : B4 e base w b zb v1 v2 v3 z1 z2 z3) (ho : Ow .u8 e base w' b' zb') (hg : w.grownBy w' b.ownBlock) (hs : OwnStep w b b') : ∃ z, z = zb' ∧ B4 e base w' b' z v1 v2 v3 z1 z2 z3 := ⟨_, rfl, h.app ho hg hs⟩
theorem ow_z {k : IntKind} {e base : Nat} {w : World} {v : Value} {zs : List Int} (h : Ow k e base w v zs) : ∃ z, z = zs ∧ Ow k e base w v z := ⟨_, rfl, h⟩
theorem b4_new {e base w w' b zb v1 v2 v3 z1 z2 z3} (h : T3 e base w v1 v2 v3 z1 z2 z3) (hbs : base ≤ w.heap.size) (ho : Ow .u8 e w.heap.size w' b zb) (hb : Below w.heap.size w w') : B4 e base w' b zb v1 v2 v3 z1 z2 z3 :=
  ⟨ho.mono hbs, h.below hb, fun g hg hv => by have := (ho.lt g hg).1; have := (h.o1.lt g hv).2; omega, fun g hg hv => by have := (ho.lt g hg).1; have := (h.o2.lt g hv).2; omega, fun g hg hv => by have := (ho.lt g hg).1; have := (h.o3.lt g hv).2; omega⟩
end Go.Tk
namespace Go.Proofs.YtgajpekolamjbaaDoor
open Go.RowKit Go.Tk
set_option maxRecDepth 100000 in
set_option maxHeartbeats 4000000 in
theorem whole_calls (w : World) (a : Option Addr) (n c : Nat) (d : List UInt8) (N : Nat) (hs : SlI .u8 w a n c (nums d)) (hnil : a = none → c = 0) (hN : N ≤ 67108864) (hl : N ≤ 8 * d.length) (hd : d.length ≤ 100000000) :
    Calls Tryd.prog 73 #[.slice a n c, .int .i64 (N : Nat)] w fun e w' => ∃ x, e = .returned x ∧ Ow .u8 5 w.heap.size w' x (nums (whB d N)) ∧ Below w.heap.size w w' := by
  have HS := Lib.hid hs
  clear hs
  have n4 := fun v w' (hv : v ≤ 1000000000000) => rknum_calls w' v 4 hv (by decide)
  have n2 := fun v w' (hv : v ≤ 1000000000000) => rknum_calls w' v 2 hv (by decide)
  simp only [show ((4 : Nat) : Int) = 4 from rfl] at n4
  simp only [show ((2 : Nat) : Int) = 2 from rfl] at n2
  have N4 := Lib.hid n4
  have N2 := Lib.hid n2
  clear n4 n2
  go_enter Tryd.func73, Tryd.ntmps73
  go_wp2
  go_loopw [5, 6, 7, 8, 9, 10] (fun gv sv mv ov av iv wr => ∃ (i m ah : Nat), iv = .int .i64 (i : Nat) ∧ i ≤ N ∧ ov = .int .i64 (m : Nat) ∧ m = cntB d i ∧ av = .int .i64 (ah : Nat) ∧ (¬ i % 2048 = 0 → ah = cntB d (i / 2048 * 2048)) ∧ T3 5 w.heap.size wr gv sv mv (nums (catB 4 (grL d i))) (nums (catB 2 (smL d i))) (nums (catB 4 (mkL d i))) ∧ Below w.heap.size w wr) (fun _ _ _ _ _ iv _ => N - (intOf iv).toNat)
  case atStart => exact ⟨0, 0, 0, rfl, Nat.zero_le _, rfl, rfl, rfl, fun h => absurd rfl h, ⟨Ow.nil _ _ _ _, Ow.nil _ _ _ _, Ow.nil _ _ _ _, Apart.nil _ _ _, Apart.nil _ _ _, Apart.nil _ _ _⟩, Below.refl _ _⟩
  case round =>
    obtain ⟨i, m, ah, rfl, hi, rfl, hm, rfl, hah, ht3, hbw⟩ := hrel
    obtain ⟨ga, gc, rfl, _, _⟩ := ht3.o1.sl
    obtain ⟨sa, sc, rfl, _, _⟩ := ht3.o2.sl
    obtain ⟨ma, mc, rfl, _, _⟩ := ht3.o3.sl
    have HT := Lib.hid ht3
    have HB := Lib.hid hbw
    clear ht3 hbw
    have lg : (nums (catB 4 (grL d i))).length = 4 * ((i + 2047) / 2048) := by rw [nums_len, cat_len, gr_len]
    have ls : (nums (catB 2 (smL d i))).length = 2 * ((i + 255) / 256) := by rw [nums_len, cat_len, sm_len]
    have lm : (nums (catB 4 (mkL d i))).length = 4 * ((m + 511) / 512) := by rw [nums_len, cat_len, mk_len, hm]
    have hmi : m ≤ i := by rw [hm]; exact cnt_le d i
    have LG := Lib.hid lg
    have LS := Lib.hid ls
    have LM := Lib.hid lm
    have HM := Lib.hid hm
    have HAH := Lib.hid hah
    clear lg ls lm hm hah
    by_cases hin : i < N
    · have hsx : ∀ w', Below w.heap.size w w' → SlI .u8 w' a n c (nums d) := fun w' h => HS.out.keep h
      have HSX := Lib.hid hsx
      have hbc := fun w' h => bit_calls w' a n c d i h (by omega) (by omega)
      have c1 : cntB d (i + 1) = m + (if btB d i = true then 1 else 0) := by simp only [cntB]; rw [HM.out]
      have HBC := Lib.hid hbc
      have HC1 := Lib.hid c1
      clear hsx hbc c1
      by_cases g0 : i % 2048 = 0
      · have s0 : i % 256 = 0 := by omega
        have e1 : ((i : Int) % 2048 == 0) = true := by simp; omega
        have e2 : ((i : Int) % 256 == 0) = true := by simp; omega
        have hgr : nums (catB 4 (grL d i)) ++ nums (leB m 4) = nums (catB 4 (grL d (i + 1))) := by rw [cat_app]; simp only [grL]; rw [if_pos g0, HM.out]
        have hsm : nums (catB 2 (smL d i)) ++ nums (leB 0 2) = nums (catB 2 (smL d (i + 1))) := by rw [cat_app]; simp only [smL]; rw [if_pos s0, show i / 2048 * 2048 = i by omega, Nat.sub_self]
        have h0 := fun w' => N2.out 0 w' (by omega)
        simp only [show ((0 : Nat) : Int) = 0 from rfl] at h0
        have H0 := Lib.hid h0
        have HGR := Lib.hid hgr
        have HSM := Lib.hid hsm
        have G0 := Lib.hid g0
        clear hgr hsm h0 g0 s0
        go_upto_region 14 with (first
          | (go_at_call 76; (with_reducible refine (N4.out m _ (by omega)).mono ?_); rintro e wn ⟨x, rfl, hx, hbn⟩; obtain ⟨xa, xc, rfl, hxs, _⟩ := hx.sl; (have HXS := Lib.hid hxs); (have HXN := Lib.hid (fun h : xa = none => Ow.nil_cap (h ▸ hx))); (have HT := Lib.hid (HT.out.below hbn)); (have HB := Lib.hid (HB.out.trans (hbn.mono HB.out.size))); clear hx hxs hbn)
          | (at_builtin; (refine wpList_appJ rfl (.tmp 20) (.tmp 22) _ rfl .u8 w.heap.size 5 _ 1 Tryd.underlying22 Tryd.infoU8 rfl _ _ rfl (HT.out.o1) _ _ _ _ rfl HXS.out HXN.out (by have := LG.out; have := LS.out; have := LM.out; simp only [nums_len, le_len] at *; omega) (by have := LG.out; have := LS.out; have := LM.out; simp only [nums_len, le_len] at *; omega) HB.out.size ?_; intro v' w' ow' hg' st'; (have HB2 := Lib.hid (HB.out.grown hg' HB.out.size (fun j hj => (HT.out.o1.lt j hj).1))); (have ow2 := ow_to ow' HGR.out); (have HT2 := Lib.hid ((T3.app HT.out ow2 hg' st'))); clear ow' hg' st' ow2; obtain ⟨va, vc, rfl, _, _⟩ := HT2.out.o1.sl; (have HT := HT2); (have HB := HB2)))
          | (go_at_call 76; (with_reducible refine (H0.out _).mono ?_); rintro e wn ⟨x, rfl, hx, hbn⟩; obtain ⟨xa, xc, rfl, hxs, _⟩ := hx.sl; (have HXS := Lib.hid hxs); (have HXN := Lib.hid (fun h : xa = none => Ow.nil_cap (h ▸ hx))); (have HT := Lib.hid (HT.out.below hbn)); (have HB := Lib.hid (HB.out.trans (hbn.mono HB.out.size))); clear hx hxs hbn)
          | (at_builtin; (refine wpList_appJ rfl (.tmp 28) (.tmp 32) _ rfl .u8 w.heap.size 5 _ 1 Tryd.underlying22 Tryd.infoU8 rfl _ _ rfl (HT.out.rot.o1) _ _ _ _ rfl HXS.out HXN.out (by have := LG.out; have := LS.out; have := LM.out; simp only [nums_len, le_len] at *; omega) (by have := LG.out; have := LS.out; have := LM.out; simp only [nums_len, le_len] at *; omega) HB.out.size ?_; intro v' w' ow' hg' st'; (have HB2 := Lib.hid (HB.out.grown hg' HB.out.size (fun j hj => (HT.out.rot.o1.lt j hj).1))); (have ow2 := ow_to ow' HSM.out); (have HT2 := Lib.hid ((T3.app HT.out.rot ow2 hg' st').rot.rot)); clear ow' hg' st' ow2; obtain ⟨va, vc, rfl, _, _⟩ := HT2.out.rot.o1.sl; (have HT := HT2); (have HB := HB2))))
        clear e1 e2
        by_cases hbt : btB d i = true
        · have hbcc := HBC.out
          rw [hbt] at hbcc
          have HBT := Lib.hid hbcc
          have hc1 : cntB d (i + 1) = m + 1 := by rw [HC1.out, if_pos hbt]
          have HC2 := Lib.hid hc1
          by_cases m0 : m % 512 = 0
          · have e3 : ((m : Int) % 512 == 0) = true := by simp; omega
            have hmk : nums (catB 4 (mkL d i)) ++ nums (leB i 4) = nums (catB 4 (mkL d (i + 1))) := by rw [cat_app]; simp only [mkL]; rw [if_pos ⟨hbt, by rw [← HM.out]; exact m0⟩]
            have HMK := Lib.hid hmk
            clear hbt hbcc hc1 hmk m0 HBC HC1
            go_wp2_with (first
              | (go_at_call 74; refine (HBT.out _ (HSX.out _ HB.out)).mono ?_; rintro e wb ⟨rfl, rfl⟩)
              | (go_at_call 76; (with_reducible refine (N4.out i _ (by omega)).mono ?_); rintro e wn ⟨x, rfl, hx, hbn⟩; obtain ⟨xa, xc, rfl, hxs, _⟩ := hx.sl; (have HXS := Lib.hid hxs); (have HXN := Lib.hid (fun h : xa = none => Ow.nil_cap (h ▸ hx))); (have HT := Lib.hid (HT.out.below hbn)); (have HB := Lib.hid (HB.out.trans (hbn.mono HB.out.size))); clear hx hxs hbn)
              | (at_builtin; (refine wpList_appJ rfl (.tmp 40) (.tmp 42) _ rfl .u8 w.heap.size 5 _ 1 Tryd.underlying22 Tryd.infoU8 rfl _ _ rfl (HT.out.rot.rot.o1) _ _ _ _ rfl HXS.out HXN.out (by have := LG.out; have := LS.out; have := LM.out; simp only [nums_len, le_len] at *; omega) (by have := LG.out; have := LS.out; have := LM.out; simp only [nums_len, le_len] at *; omega) HB.out.size ?_; intro v' w' ow' hg' st'; (have HB2 := Lib.hid (HB.out.grown hg' HB.out.size (fun j hj => (HT.out.rot.rot.o1.lt j hj).1))); (have ow2 := ow_to ow' HMK.out); (have HT2 := Lib.hid ((T3.app HT.out.rot.rot ow2 hg' st').rot)); clear ow' hg' st' ow2; obtain ⟨va, vc, rfl, _, _⟩ := HT2.out.rot.rot.o1.sl; (have HT := HT2); (have HB := HB2))))
            go_roundw
            case rel => exact ⟨i + 1, m + 1, m, by go_num, by omega, by go_num, HC2.out.symm, rfl, fun h => by rw [HM.out, show (i + 1) / 2048 * 2048 = i by have := G0.out; omega], t3_to HT.out rfl rfl rfl, HB.out⟩
            case measure => simp [intOf]; omega
          · have e3 : ((m : Int) % 512 == 0) = false := by simp; omega
            have hmk : mkL d (i + 1) = mkL d i := by simp only [mkL]; rw [if_neg (fun h => m0 (by rw [HM.out]; exact h.2)), List.append_nil]
            have HMK := Lib.hid hmk
            clear hbt hbcc hc1 hmk m0 HBC HC1
            go_wp2_with (go_at_call 74; refine (HBT.out _ (HSX.out _ HB.out)).mono ?_; rintro e wb ⟨rfl, rfl⟩)
            go_roundw
            case rel => exact ⟨i + 1, m + 1, m, by go_num, by omega, by go_num, HC2.out.symm, rfl, fun h => by rw [HM.out, show (i + 1) / 2048 * 2048 = i by have := G0.out; omega], t3_to HT.out rfl rfl (by rw [HMK.out]), HB.out⟩
            case measure => simp [intOf]; omega
        · have hbf : btB d i = false := by simpa using hbt
          have hbcc := HBC.out
          rw [hbf] at hbcc
          have HBT := Lib.hid hbcc
          have hc1 : cntB d (i + 1) = m := by rw [HC1.out, if_neg hbt]; rfl
          have HC2 := Lib.hid hc1
          have hmk : mkL d (i + 1) = mkL d i := by simp only [mkL]; rw [if_neg (fun h => hbt h.1), List.append_nil]
          have HMK := Lib.hid hmk
          clear hbt hbf hbcc hc1 hmk HBC HC1
          go_wp2_with (go_at_call 74; refine (HBT.out _ (HSX.out _ HB.out)).mono ?_; rintro e wb ⟨rfl, rfl⟩)
          go_roundw
          case rel => exact ⟨i + 1, m, m, by go_num, by omega, rfl, HC2.out.symm, rfl, fun h => by rw [HM.out, show (i + 1) / 2048 * 2048 = i by have := G0.out; omega], t3_to HT.out rfl rfl (by rw [HMK.out]), HB.out⟩
          case measure => simp [intOf]; omega
      · have e1 : ((i : Int) % 2048 == 0) = false := by simp; omega
        have ha := HAH.out g0
        have hgr : grL d (i + 1) = grL d i := by simp only [grL]; rw [if_neg g0, List.append_nil]
        have HGR := Lib.hid hgr
        have G0 := Lib.hid g0
        by_cases s0 : i % 256 = 0
        · have e2 : ((i : Int) % 256 == 0) = true := by simp; omega
          have hle : ah ≤ m := by rw [HM.out, ha]; exact cnt_mono d (by omega)
          have hsm : nums (catB 2 (smL d i)) ++ nums (leB (m - ah) 2) = nums (catB 2 (smL d (i + 1))) := by rw [cat_app]; simp only [smL]; rw [if_pos s0, HM.out, ha]
          have h0 := fun w' => N2.out (m - ah) w' (by omega)
          rw [Int.natCast_sub hle] at h0
          have H0 := Lib.hid h0
          have HSM := Lib.hid hsm
          clear hgr hsm h0 g0 s0 ha
          go_upto_region 14 with (first
            | (go_at_call 76; (with_reducible refine (H0.out _).mono ?_); rintro e wn ⟨x, rfl, hx, hbn⟩; obtain ⟨xa, xc, rfl, hxs, _⟩ := hx.sl; (have HXS := Lib.hid hxs); (have HXN := Lib.hid (fun h : xa = none => Ow.nil_cap (h ▸ hx))); (have HT := Lib.hid (HT.out.below hbn)); (have HB := Lib.hid (HB.out.trans (hbn.mono HB.out.size))); clear hx hxs hbn)
            | (at_builtin; (refine wpList_appJ rfl (.tmp 28) (.tmp 32) _ rfl .u8 w.heap.size 5 _ 1 Tryd.underlying22 Tryd.infoU8 rfl _ _ rfl (HT.out.rot.o1) _ _ _ _ rfl HXS.out HXN.out (by have := LG.out; have := LS.out; have := LM.out; simp only [nums_len, le_len] at *; omega) (by have := LG.out; have := LS.out; have := LM.out; simp only [nums_len, le_len] at *; omega) HB.out.size ?_; intro v' w' ow' hg' st'; (have HB2 := Lib.hid (HB.out.grown hg' HB.out.size (fun j hj => (HT.out.rot.o1.lt j hj).1))); (have ow2 := ow_to ow' HSM.out); (have HT2 := Lib.hid ((T3.app HT.out.rot ow2 hg' st').rot.rot)); clear ow' hg' st' ow2; obtain ⟨va, vc, rfl, _, _⟩ := HT2.out.rot.o1.sl; (have HT := HT2); (have HB := HB2))))
          clear e1 e2 hle
          by_cases hbt : btB d i = true
          · have hbcc := HBC.out
            rw [hbt] at hbcc
            have HBT := Lib.hid hbcc
            have hc1 : cntB d (i + 1) = m + 1 := by rw [HC1.out, if_pos hbt]
            have HC2 := Lib.hid hc1
            by_cases m0 : m % 512 = 0
            · have e3 : ((m : Int) % 512 == 0) = true := by simp; omega
              have hmk : nums (catB 4 (mkL d i)) ++ nums (leB i 4) = nums (catB 4 (mkL d (i + 1))) := by rw [cat_app]; simp only [mkL]; rw [if_pos ⟨hbt, by rw [← HM.out]; exact m0⟩]
              have HMK := Lib.hid hmk
              clear hbt hbcc hc1 hmk m0 HBC HC1
              go_wp2_with (first
                | (go_at_call 74; refine (HBT.out _ (HSX.out _ HB.out)).mono ?_; rintro e wb ⟨rfl, rfl⟩)
                | (go_at_call 76; (with_reducible refine (N4.out i _ (by omega)).mono ?_); rintro e wn ⟨x, rfl, hx, hbn⟩; obtain ⟨xa, xc, rfl, hxs, _⟩ := hx.sl; (have HXS := Lib.hid hxs); (have HXN := Lib.hid (fun h : xa = none => Ow.nil_cap (h ▸ hx))); (have HT := Lib.hid (HT.out.below hbn)); (have HB := Lib.hid (HB.out.trans (hbn.mono HB.out.size))); clear hx hxs hbn)
                | (at_builtin; (refine wpList_appJ rfl (.tmp 40) (.tmp 42) _ rfl .u8 w.heap.size 5 _ 1 Tryd.underlying22 Tryd.infoU8 rfl _ _ rfl (HT.out.rot.rot.o1) _ _ _ _ rfl HXS.out HXN.out (by have := LG.out; have := LS.out; have := LM.out; simp only [nums_len, le_len] at *; omega) (by have := LG.out; have := LS.out; have := LM.out; simp only [nums_len, le_len] at *; omega) HB.out.size ?_; intro v' w' ow' hg' st'; (have HB2 := Lib.hid (HB.out.grown hg' HB.out.size (fun j hj => (HT.out.rot.rot.o1.lt j hj).1))); (have ow2 := ow_to ow' HMK.out); (have HT2 := Lib.hid ((T3.app HT.out.rot.rot ow2 hg' st').rot)); clear ow' hg' st' ow2; obtain ⟨va, vc, rfl, _, _⟩ := HT2.out.rot.rot.o1.sl; (have HT := HT2); (have HB := HB2))))
              go_roundw
              case rel => exact ⟨i + 1, m + 1, ah, by go_num, by omega, by go_num, HC2.out.symm, rfl, fun h => by rw [show (i + 1) / 2048 * 2048 = i / 2048 * 2048 by omega]; exact HAH.out G0.out, t3_to HT.out (by rw [HGR.out]) rfl rfl, HB.out⟩
              case measure => simp [intOf]; omega
            · have e3 : ((m : Int) % 512 == 0) = false := by simp; omega
              have hmk : mkL d (i + 1) = mkL d i := by simp only [mkL]; rw [if_neg (fun h => m0 (by rw [HM.out]; exact h.2)), List.append_nil]
              have HMK := Lib.hid hmk
              clear hbt hbcc hc1 hmk m0 HBC HC1
              go_wp2_with (go_at_call 74; refine (HBT.out _ (HSX.out _ HB.out)).mono ?_; rintro e wb ⟨rfl, rfl⟩)
              go_roundw
              case rel => exact ⟨i + 1, m + 1, ah, by go_num, by omega, by go_num, HC2.out.symm, rfl, fun h => by rw [show (i + 1) / 2048 * 2048 = i / 2048 * 2048 by omega]; exact HAH.out G0.out, t3_to HT.out (by rw [HGR.out]) rfl (by rw [HMK.out]), HB.out⟩
              case measure => simp [intOf]; omega
          · have hbf : btB d i = false := by simpa using hbt
            have hbcc := HBC.out
            rw [hbf] at hbcc
            have HBT := Lib.hid hbcc
            have hc1 : cntB d (i + 1) = m := by rw [HC1.out, if_neg hbt]; rfl
            have HC2 := Lib.hid hc1
            have hmk : mkL d (i + 1) = mkL d i := by simp only [mkL]; rw [if_neg (fun h => hbt h.1), List.append_nil]
            have HMK := Lib.hid hmk
            clear hbt hbf hbcc hc1 hmk HBC HC1
            go_wp2_with (go_at_call 74; refine (HBT.out _ (HSX.out _ HB.out)).mono ?_; rintro e wb ⟨rfl, rfl⟩)
            go_roundw
            case rel => exact ⟨i + 1, m, ah, by go_num, by omega, rfl, HC2.out.symm, rfl, fun h => by rw [show (i + 1) / 2048 * 2048 = i / 2048 * 2048 by omega]; exact HAH.out G0.out, t3_to HT.out (by rw [HGR.out]) rfl (by rw [HMK.out]), HB.out⟩
            case measure => simp [intOf]; omega
        · have e2 : ((i : Int) % 256 == 0) = false := by simp; omega
          have hsm : smL d (i + 1) = smL d i := by simp only [smL]; rw [if_neg s0, List.append_nil]
          have HSM := Lib.hid hsm
          clear hgr hsm g0 s0 ha
          go_upto_region 14 with fail
          clear e1 e2
          by_cases hbt : btB d i = true
          · have hbcc := HBC.out
            rw [hbt] at hbcc
            have HBT := Lib.hid hbcc
            have hc1 : cntB d (i + 1) = m + 1 := by rw [HC1.out, if_pos hbt]
            have HC2 := Lib.hid hc1
            by_cases m0 : m % 512 = 0
            · have e3 : ((m : Int) % 512 == 0) = true := by simp; omega
              have hmk : nums (catB 4 (mkL d i)) ++ nums (leB i 4) = nums (catB 4 (mkL d (i + 1))) := by rw [cat_app]; simp only [mkL]; rw [if_pos ⟨hbt, by rw [← HM.out]; exact m0⟩]
              have HMK := Lib.hid hmk
              clear hbt hbcc hc1 hmk m0 HBC HC1
              go_wp2_with (first
                | (go_at_call 74; refine (HBT.out _ (HSX.out _ HB.out)).mono ?_; rintro e wb ⟨rfl, rfl⟩)
                | (go_at_call 76; (with_reducible refine (N4.out i _ (by omega)).mono ?_); rintro e wn ⟨x, rfl, hx, hbn⟩; obtain ⟨xa, xc, rfl, hxs, _⟩ := hx.sl; (have HXS := Lib.hid hxs); (have HXN := Lib.hid (fun h : xa = none => Ow.nil_cap (h ▸ hx))); (have HT := Lib.hid (HT.out.below hbn)); (have HB := Lib.hid (HB.out.trans (hbn.mono HB.out.size))); clear hx hxs hbn)
                | (at_builtin; (refine wpList_appJ rfl (.tmp 40) (.tmp 42) _ rfl .u8 w.heap.size 5 _ 1 Tryd.underlying22 Tryd.infoU8 rfl _ _ rfl (HT.out.rot.rot.o1) _ _ _ _ rfl HXS.out HXN.out (by have := LG.out; have := LS.out; have := LM.out; simp only [nums_len, le_len] at *; omega) (by have := LG.out; have := LS.out; have := LM.out; simp only [nums_len, le_len] at *; omega) HB.out.size ?_; intro v' w' ow' hg' st'; (have HB2 := Lib.hid (HB.out.grown hg' HB.out.size (fun j hj => (HT.out.rot.rot.o1.lt j hj).1))); (have ow2 := ow_to ow' HMK.out); (have HT2 := Lib.hid ((T3.app HT.out.rot.rot ow2 hg' st').rot)); clear ow' hg' st' ow2; obtain ⟨va, vc, rfl, _, _⟩ := HT2.out.rot.rot.o1.sl; (have HT := HT2); (have HB := HB2))))
              go_roundw
              case rel => exact ⟨i + 1, m + 1, ah, by go_num, by omega, by go_num, HC2.out.symm, rfl, fun h => by rw [show (i + 1) / 2048 * 2048 = i / 2048 * 2048 by omega]; exact HAH.out G0.out, t3_to HT.out (by rw [HGR.out]) (by rw [HSM.out]) rfl, HB.out⟩
              case measure => simp [intOf]; omega
            · have e3 : ((m : Int) % 512 == 0) = false := by simp; omega
              have hmk : mkL d (i + 1) = mkL d i := by simp only [mkL]; rw [if_neg (fun h => m0 (by rw [HM.out]; exact h.2)), List.append_nil]
              have HMK := Lib.hid hmk
              clear hbt hbcc hc1 hmk m0 HBC HC1
              go_wp2_with (go_at_call 74; refine (HBT.out _ (HSX.out _ HB.out)).mono ?_; rintro e wb ⟨rfl, rfl⟩)
              go_roundw
              case rel => exact ⟨i + 1, m + 1, ah, by go_num, by omega, by go_num, HC2.out.symm, rfl, fun h => by rw [show (i + 1) / 2048 * 2048 = i / 2048 * 2048 by omega]; exact HAH.out G0.out, t3_to HT.out (by rw [HGR.out]) (by rw [HSM.out]) (by rw [HMK.out]), HB.out⟩
              case measure => simp [intOf]; omega
          · have hbf : btB d i = false := by simpa using hbt
            have hbcc := HBC.out
            rw [hbf] at hbcc
            have HBT := Lib.hid hbcc
            have hc1 : cntB d (i + 1) = m := by rw [HC1.out, if_neg hbt]; rfl
            have HC2 := Lib.hid hc1
            have hmk : mkL d (i + 1) = mkL d i := by simp only [mkL]; rw [if_neg (fun h => hbt h.1), List.append_nil]
            have HMK := Lib.hid hmk
            clear hbt hbf hbcc hc1 hmk HBC HC1
            go_wp2_with (go_at_call 74; refine (HBT.out _ (HSX.out _ HB.out)).mono ?_; rintro e wb ⟨rfl, rfl⟩)
            go_roundw
            case rel => exact ⟨i + 1, m, ah, by go_num, by omega, rfl, HC2.out.symm, rfl, fun h => by rw [show (i + 1) / 2048 * 2048 = i / 2048 * 2048 by omega]; exact HAH.out G0.out, t3_to HT.out (by rw [HGR.out]) (by rw [HSM.out]) (by rw [HMK.out]), HB.out⟩
            case measure => simp [intOf]; omega
    · obtain rfl : i = N := by omega
      have hsx : ∀ w', Below w.heap.size w w' → SlI .u8 w' a n c (nums d) := fun w' h => HS.out.keep h
      have HNIL := Lib.hid hnil
      have HSX := Lib.hid hsx
      have hnd : n = d.length := by have := HS.out.len; rw [nums_len] at this; exact this.symm
      have HND := Lib.hid hnd
      clear hsx hnd
      go_wp2_with (first
        | (go_at_call 76; (with_reducible refine (N4.out i _ (by omega)).mono ?_); rintro e wn ⟨x, rfl, hx, hbn⟩; obtain ⟨zq, hzq, hx⟩ := ow_z hx; obtain ⟨xa, xc, rfl, _, _⟩ := hx.sl; (have HZ0 := Lib.hid hzq); (have HQ := Lib.hid (b4_new HT.out HB.out.size hx hbn)); (have HB := Lib.hid (HB.out.trans (hbn.mono HB.out.size))); clear hx hbn hzq)
        | (go_at_call 76; (with_reducible refine (N4.out m _ (by omega)).mono ?_); rintro e wm ⟨x, rfl, hx, hbn⟩; obtain ⟨ya, yc, rfl, hys, _⟩ := hx.sl; (have HYS := Lib.hid hys); (have HYN := Lib.hid (fun h : ya = none => Ow.nil_cap (h ▸ hx))); (have HQ := Lib.hid (HQ.out.below hbn)); (have HB := Lib.hid (HB.out.trans (hbn.mono HB.out.size))); clear hx hys hbn)
        | (at_builtin; (refine wpList_appJ rfl (.tmp 47) (.tmp 49) _ rfl .u8 w.heap.size 5 _ 1 Tryd.underlying22 Tryd.infoU8 rfl _ _ rfl HQ.out.o _ _ _ _ rfl HYS.out HYN.out (by have := LG.out; have := LS.out; have := LM.out; have := HND.out; have q0 := HZ0.out; have q0l := congrArg List.length q0; simp only [List.length_append, nums_len, le_len] at *; omega) (by have := LG.out; have := LS.out; have := LM.out; have := HND.out; have q0 := HZ0.out; have q0l := congrArg List.length q0; simp only [List.length_append, nums_len, le_len] at *; omega) HB.out.size ?_; intro v' w' ow' hg' st'; (have HB2 := Lib.hid (HB.out.grown hg' HB.out.size (fun j hj => (HQ.out.o.lt j hj).1))); obtain ⟨zq, hzq, hq2⟩ := HQ.out.app' ow' hg' st'; (have HQ2 := Lib.hid hq2); (have HZ1 := Lib.hid hzq); clear ow' hg' st' hq2 hzq; obtain ⟨va, vc, rfl, _, _⟩ := HQ2.out.o.sl; (have HQ := HQ2); (have HB := HB2)))
        | (at_builtin; (refine wpList_appJ rfl (.tmp 51) (.tmp 52) _ rfl .u8 w.heap.size 5 _ 1 Tryd.underlying22 Tryd.infoU8 rfl _ _ rfl HQ.out.o _ _ _ _ rfl (HSX.out _ HB.out) HNIL.out (by have := LG.out; have := LS.out; have := LM.out; have := HND.out; have q0 := HZ0.out; have q1 := HZ1.out; have q0l := congrArg List.length q0; have q1l := congrArg List.length q1; simp only [List.length_append, nums_len, le_len] at *; omega) (by have := LG.out; have := LS.out; have := LM.out; have := HND.out; have q0 := HZ0.out; have q1 := HZ1.out; have q0l := congrArg List.length q0; have q1l := congrArg List.length q1; simp only [List.length_append, nums_len, le_len] at *; omega) HB.out.size ?_; intro v' w' ow' hg' st'; (have HB2 := Lib.hid (HB.out.grown hg' HB.out.size (fun j hj => (HQ.out.o.lt j hj).1))); obtain ⟨zq, hzq, hq2⟩ := HQ.out.app' ow' hg' st'; (have HQ2 := Lib.hid hq2); (have HZ2 := Lib.hid hzq); clear ow' hg' st' hq2 hzq; obtain ⟨va, vc, rfl, _, _⟩ := HQ2.out.o.sl; (have HQ := HQ2); (have HB := HB2)))
        | (at_builtin; (refine wpList_appJ rfl (.tmp 54) (.tmp 55) _ rfl .u8 w.heap.size 5 _ 1 Tryd.underlying22 Tryd.infoU8 rfl _ _ rfl HQ.out.o _ _ _ _ rfl (t3_sl HQ.out.t.o1) (fun h => t3_nil HQ.out.t.o1 h) (by have := LG.out; have := LS.out; have := LM.out; have := HND.out; have q0 := HZ0.out; have q1 := HZ1.out; have q2 := HZ2.out; have q0l := congrArg List.length q0; have q1l := congrArg List.length q1; have q2l := congrArg List.length q2; simp only [List.length_append, nums_len, le_len] at *; omega) (by have := LG.out; have := LS.out; have := LM.out; have := HND.out; have q0 := HZ0.out; have q1 := HZ1.out; have q2 := HZ2.out; have q0l := congrArg List.length q0; have q1l := congrArg List.length q1; have q2l := congrArg List.length q2; simp only [List.length_append, nums_len, le_len] at *; omega) HB.out.size ?_; intro v' w' ow' hg' st'; (have HB2 := Lib.hid (HB.out.grown hg' HB.out.size (fun j hj => (HQ.out.o.lt j hj).1))); obtain ⟨zq, hzq, hq2⟩ := HQ.out.app' ow' hg' st'; (have HQ2 := Lib.hid hq2); (have HZ3 := Lib.hid hzq); clear ow' hg' st' hq2 hzq; obtain ⟨va, vc, rfl, _, _⟩ := HQ2.out.o.sl; (have HQ := HQ2); (have HB := HB2)))
        | (at_builtin; (refine wpList_appJ rfl (.tmp 57) (.tmp 58) _ rfl .u8 w.heap.size 5 _ 1 Tryd.underlying22 Tryd.infoU8 rfl _ _ rfl HQ.out.o _ _ _ _ rfl (t3_sl HQ.out.t.o2) (fun h => t3_nil HQ.out.t.o2 h) (by have := LG.out; have := LS.out; have := LM.out; have := HND.out; have q0 := HZ0.out; have q1 := HZ1.out; have q2 := HZ2.out; have q3 := HZ3.out; have q0l := congrArg List.length q0; have q1l := congrArg List.length q1; have q2l := congrArg List.length q2; have q3l := congrArg List.length q3; simp only [List.length_append, nums_len, le_len] at *; omega) (by have := LG.out; have := LS.out; have := LM.out; have := HND.out; have q0 := HZ0.out; have q1 := HZ1.out; have q2 := HZ2.out; have q3 := HZ3.out; have q0l := congrArg List.length q0; have q1l := congrArg List.length q1; have q2l := congrArg List.length q2; have q3l := congrArg List.length q3; simp only [List.length_append, nums_len, le_len] at *; omega) HB.out.size ?_; intro v' w' ow' hg' st'; (have HB2 := Lib.hid (HB.out.grown hg' HB.out.size (fun j hj => (HQ.out.o.lt j hj).1))); obtain ⟨zq, hzq, hq2⟩ := HQ.out.app' ow' hg' st'; (have HQ2 := Lib.hid hq2); (have HZ4 := Lib.hid hzq); clear ow' hg' st' hq2 hzq; obtain ⟨va, vc, rfl, _, _⟩ := HQ2.out.o.sl; (have HQ := HQ2); (have HB := HB2)))
        | (at_builtin; (refine wpList_appJ rfl (.tmp 60) (.tmp 61) _ rfl .u8 w.heap.size 5 _ 1 Tryd.underlying22 Tryd.infoU8 rfl _ _ rfl HQ.out.o _ _ _ _ rfl (t3_sl HQ.out.t.o3) (fun h => t3_nil HQ.out.t.o3 h) (by have := LG.out; have := LS.out; have := LM.out; have := HND.out; have q0 := HZ0.out; have q1 := HZ1.out; have q2 := HZ2.out; have q3 := HZ3.out; have q4 := HZ4.out; have q0l := congrArg List.length q0; have q1l := congrArg List.length q1; have q2l := congrArg List.length q2; have q3l := congrArg List.length q3; have q4l := congrArg List.length q4; simp only [List.length_append, nums_len, le_len] at *; omega) (by have := LG.out; have := LS.out; have := LM.out; have := HND.out; have q0 := HZ0.out; have q1 := HZ1.out; have q2 := HZ2.out; have q3 := HZ3.out; have q4 := HZ4.out; have q0l := congrArg List.length q0; have q1l := congrArg List.length q1; have q2l := congrArg List.length q2; have q3l := congrArg List.length q3; have q4l := congrArg List.length q4; simp only [List.length_append, nums_len, le_len] at *; omega) HB.out.size ?_; intro v' w' ow' hg' st'; (have HB2 := Lib.hid (HB.out.grown hg' HB.out.size (fun j hj => (HQ.out.o.lt j hj).1))); obtain ⟨zq, hzq, hq2⟩ := HQ.out.app' ow' hg' st'; (have HQ2 := Lib.hid hq2); (have HZ5 := Lib.hid hzq); clear ow' hg' st' hq2 hzq; obtain ⟨va, vc, rfl, _, _⟩ := HQ2.out.o.sl; (have HQ := HQ2); (have HB := HB2))))
      go_ret
      refine ⟨_, rfl, ow_to HQ.out.o ?_, HB.out⟩
      rw [HZ5.out, HZ4.out, HZ3.out, HZ2.out, HZ1.out, HZ0.out]
      unfold whB
      simp only [nums_append, HM.out]
end Go.Proofs.YtgajpekolamjbaaDoor
