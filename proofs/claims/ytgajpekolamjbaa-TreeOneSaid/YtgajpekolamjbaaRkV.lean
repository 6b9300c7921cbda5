/- RkH RkX RkF RkV, laid as one. -/
import Derived.Test.YtgajpekolamjbaaRkR
import Derived.Deep.CutBlock
import Derived.Deep.QuietTactic
import Derived.Test.YtgajpekolamjbaaReg
import Derived.BigQuiet
import Derived.Test.YtgajpekolamjbaaQu
set_option linter.unusedVariables false
set_option linter.unusedSimpArgs false
/- Whole of the document: the vector's bytes. -/
namespace Go.Tk
open Go Go.RowKit
/-- Two rows of the call's own that are not one. -/
def Apart (v u : Value) : Prop := ∀ g, v.ownBlock = some g → u.ownBlock ≠ some g
theorem Apart.symm {v u : Value} (h : Apart v u) : Apart u v := fun g hg hv => h g hv hg
theorem Apart.nil (n c : Nat) (u : Value) : Apart (.slice none n c) u := fun g hg => by simp [Value.ownBlock] at hg
/-- Three rows of the call's own. -/
structure T3 (e base : Nat) (w : World) (v1 v2 v3 : Value) (z1 z2 z3 : List Int) : Prop where
  o1 : Ow .u8 e base w v1 z1
  o2 : Ow .u8 e base w v2 z2
  o3 : Ow .u8 e base w v3 z3
  d12 : Apart v1 v2
  d13 : Apart v1 v3
  d23 : Apart v2 v3
theorem T3.rot {e base w v1 v2 v3 z1 z2 z3} (h : T3 e base w v1 v2 v3 z1 z2 z3) : T3 e base w v2 v3 v1 z2 z3 z1 := ⟨h.o2, h.o3, h.o1, h.d23, h.d12.symm, h.d13.symm⟩
theorem T3.below {e base w w' v1 v2 v3 z1 z2 z3} (h : T3 e base w v1 v2 v3 z1 z2 z3) (hb : Below w.heap.size w w') : T3 e base w' v1 v2 v3 z1 z2 z3 :=
  ⟨h.o1.below hb (fun g hg => (h.o1.lt g hg).2), h.o2.below hb (fun g hg => (h.o2.lt g hg).2), h.o3.below hb (fun g hg => (h.o3.lt g hg).2), h.d12, h.d13, h.d23⟩
theorem Apart.step {w : World} {v v' u : Value} {k : IntKind} {e base : Nat} {z : List Int} (h : Apart v u) (hu : Ow k e base w u z) (hs : OwnStep w v v') : Apart v' u := fun g hg hv => by
  rcases hs with hs | ⟨g', e', hg'⟩
  · rw [hs] at hg; exact h g hg hv
  · rw [e'] at hg
    obtain rfl := Option.some.inj hg
    have := (hu.lt _ hv).2
    omega
theorem Ow.apart {k : IntKind} {e base : Nat} {w w' : World} {v u : Value} {z : List Int} (hu : Ow k e base w u z) (ha : Apart v u) (hg : w.grownBy w' v.ownBlock) : Ow k e base w' u z :=
  hu.kept2 (Kept.of_grown hg) (fun g h1 h2 => ha g h2 h1)
theorem T3.app {e base w w' v1 v2 v3 z1 z2 z3 v1' z1'} (h : T3 e base w v1 v2 v3 z1 z2 z3) (ho : Ow .u8 e base w' v1' z1') (hg : w.grownBy w' v1.ownBlock) (hs : OwnStep w v1 v1') : T3 e base w' v1' v2 v3 z1' z2 z3 :=
  ⟨ho, h.o2.apart h.d12 hg, h.o3.apart h.d13 hg, h.d12.step h.o2 hs, h.d13.step h.o3 hs, h.d23⟩
theorem ow_to {k : IntKind} {e base : Nat} {w : World} {v : Value} {zs xs : List Int} (h : Ow k e base w v zs) (hx : zs = xs) : Ow k e base w v xs := by subst hx; exact h
theorem t3_to {e base w v1 v2 v3 z1 z2 z3 y1 y2 y3} (h : T3 e base w v1 v2 v3 z1 z2 z3) (h1 : y1 = z1) (h2 : y2 = z2) (h3 : y3 = z3) : T3 e base w v1 v2 v3 y1 y2 y3 := by subst h1 h2 h3; exact h
theorem cat_app {k : Nat} {L : List Nat} {v : Nat} : nums (catB k L) ++ nums (leB v k) = nums (catB k (L ++ [v])) := by rw [← nums_append, cat_snoc]
theorem t3_sl {k : IntKind} {e base : Nat} {w : World} {a : Option Addr} {n c : Nat} {z : List Int} (h : Ow k e base w (.slice a n c) z) : SlI k w a n c z := by
  obtain ⟨a', c', he, hs, _⟩ := h.sl
  simp at he
  obtain ⟨rfl, rfl, rfl⟩ := he
  exact hs
theorem t3_nil {k : IntKind} {e base : Nat} {w : World} {a : Option Addr} {n c : Nat} {z : List Int} (h : Ow k e base w (.slice a n c) z) (ha : a = none) : c = 0 := by
  subst ha; exact Ow.nil_cap h
/-- A row that grows beside three. -/
structure B4 (e base : Nat) (w : World) (b : Value) (zb : List Int) (v1 v2 v3 : Value) (z1 z2 z3 : List Int) : Prop where
  o : Ow .u8 e base w b zb
  t : T3 e base w v1 v2 v3 z1 z2 z3
  a1 : Apart b v1
  a2 : Apart b v2
  a3 : Apart b v3
theorem B4.below {e base w w' b zb v1 v2 v3 z1 z2 z3} (h : B4 e base w b zb v1 v2 v3 z1 z2 z3) (hb : Below w.heap.size w w') : B4 e base w' b zb v1 v2 v3 z1 z2 z3 :=
  ⟨h.o.below hb (fun g hg => (h.o.lt g hg).2), h.t.below hb, h.a1, h.a2, h.a3⟩
theorem B4.app {e base w w' b zb b' zb' v1 v2 v3 z1 z2 z3} (h : B4 e base w b zb v1 v2 v3 z1 z2 z3) (ho : Ow .u8 e base w' b' zb') (hg : w.grownBy w' b.ownBlock) (hs : OwnStep w b b') : B4 e base w' b' zb' v1 v2 v3 z1 z2 z3 :=
  ⟨ho, ⟨h.t.o1.apart h.a1 hg, h.t.o2.apart h.a2 hg, h.t.o3.apart h.a3 hg, h.t.d12, h.t.d13, h.t.d23⟩, h.a1.step h.t.o1 hs, h.a2.step h.t.o2 hs, h.a3.step h.t.o3 hs⟩
theorem B4.app' {e base w w' b zb b' zb' v1 v2 v3 z1 z2 z3} (h : B4 e base w b zb v1 v2 v3 z1 z2 z3) (ho : Ow .u8 e base w' b' zb') (hg : w.grownBy w' b.ownBlock) (hs : OwnStep w b b') : ∃ z, z = zb' ∧ B4 e base w' b' z v1 v2 v3 z1 z2 z3 := ⟨_, rfl, h.app ho hg hs⟩
theorem ow_z {k : IntKind} {e base : Nat} {w : World} {v : Value} {zs : List Int} (h : Ow k e base w v zs) : ∃ z, z = zs ∧ Ow k e base w v z := ⟨_, rfl, h⟩
theorem b4_new {e base w w' b zb v1 v2 v3 z1 z2 z3} (h : T3 e base w v1 v2 v3 z1 z2 z3) (hbs : base ≤ w.heap.size) (ho : Ow .u8 e w.heap.size w' b zb) (hb : Below w.heap.size w w') : B4 e base w' b zb v1 v2 v3 z1 z2 z3 :=
  ⟨ho.mono hbs, h.below hb, fun g hg hv => by have := (ho.lt g hg).1; have := (h.o1.lt g hv).2; omega, fun g hg hv => by have := (ho.lt g hg).1; have := (h.o2.lt g hv).2; omega, fun g hg hv => by have := (ho.lt g hg).1; have := (h.o3.lt g hv).2; omega⟩
end Go.Tk
namespace Go.Proofs.Ytgajpekolamjbaa
open Go.RowKit Go.Tk
set_option maxRecDepth 100000 in
set_option maxHeartbeats 4000000 in
theorem whole_calls (w : World) (a : Option Addr) (n c : Nat) (d : List UInt8) (N : Nat) (hs : SlI .u8 w a n c (nums d)) (hnil : a = none → c = 0) (hN : N ≤ 67108864) (hl : N ≤ 8 * d.length) (hd : d.length ≤ 100000000) :
    Calls Try.prog 50 #[.slice a n c, .int .i64 (N : Nat)] w fun e w' => ∃ x, e = .returned x ∧ Ow .u8 5 w.heap.size w' x (nums (whB d N)) ∧ Below w.heap.size w w' := by
  have HS := Lib.hid hs
  clear hs
  have n4 := fun v w' (hv : v ≤ 1000000000000) => number_calls w' v 4 hv (by decide)
  have n2 := fun v w' (hv : v ≤ 1000000000000) => number_calls w' v 2 hv (by decide)
  simp only [show ((4 : Nat) : Int) = 4 from rfl] at n4
  simp only [show ((2 : Nat) : Int) = 2 from rfl] at n2
  have N4 := Lib.hid n4
  have N2 := Lib.hid n2
  clear n4 n2
  go_enter Try.func50, Try.ntmps50
  go_wp2
  go_loopw [5, 6, 7, 8, 9, 10] (fun gv sv mv ov av iv wr => ∃ (i m ah : Nat), iv = .int .i64 (i : Nat) ∧ i ≤ N ∧ ov = .int .i64 (m : Nat) ∧ m = cntB d i ∧ av = .int .i64 (ah : Nat) ∧ (¬ i % 2048 = 0 → ah = cntB d (i / 2048 * 2048)) ∧ T3 5 w.heap.size wr gv sv mv (nums (catB 4 (grL d i))) (nums (catB 2 (smL d i))) (nums (catB 4 (mkL d i))) ∧ Below w.heap.size w wr) (fun _ _ _ _ _ iv _ => N - (intOf iv).toNat)
  case atStart => exact ⟨0, 0, 0, rfl, Nat.zero_le _, rfl, rfl, rfl, fun h => absurd rfl h, ⟨Ow.nil _ _ _ _, Ow.nil _ _ _ _, Ow.nil _ _ _ _, Apart.nil _ _ _, Apart.nil _ _ _, Apart.nil _ _ _⟩, Below.refl _ _⟩
  case round =>
    obtain ⟨i, m, ah, rfl, hi, rfl, hm, rfl, hah, ht3, hbw⟩ := hrel
    obtain ⟨ga, gc, rfl, _, _⟩ := ht3.o1.sl
    obtain ⟨sa, sc, rfl, _, _⟩ := ht3.o2.sl
    obtain ⟨ma, mc, rfl, _, _⟩ := ht3.o3.sl
    have HT := Lib.hid ht3
    have HB := Lib.hid hbw
    clear ht3 hbw
    have lg : (nums (catB 4 (grL d i))).length = 4 * ((i + 2047) / 2048) := by rw [nums_len, cat_len, gr_len]
    have ls : (nums (catB 2 (smL d i))).length = 2 * ((i + 255) / 256) := by rw [nums_len, cat_len, sm_len]
    have lm : (nums (catB 4 (mkL d i))).length = 4 * ((m + 511) / 512) := by rw [nums_len, cat_len, mk_len, hm]
    have hmi : m ≤ i := by rw [hm]; exact cnt_le d i
    have LG := Lib.hid lg
    have LS := Lib.hid ls
    have LM := Lib.hid lm
    have HM := Lib.hid hm
    have HAH := Lib.hid hah
    clear lg ls lm hm hah
    by_cases hin : i < N
    · have hsx : ∀ w', Below w.heap.size w w' → SlI .u8 w' a n c (nums d) := fun w' h => HS.out.keep h
      have HSX := Lib.hid hsx
      have hbc := fun w' h => bit_calls w' a n c d i h (by omega) (by omega)
      have c1 : cntB d (i + 1) = m + (if btB d i = true then 1 else 0) := by simp only [cntB]; rw [HM.out]
      have HBC := Lib.hid hbc
      have HC1 := Lib.hid c1
      clear hsx hbc c1
      by_cases g0 : i % 2048 = 0
      · have s0 : i % 256 = 0 := by omega
        have e1 : ((i : Int) % 2048 == 0) = true := by simp; omega
        have e2 : ((i : Int) % 256 == 0) = true := by simp; omega
        have hgr : nums (catB 4 (grL d i)) ++ nums (leB m 4) = nums (catB 4 (grL d (i + 1))) := by rw [cat_app]; simp only [grL]; rw [if_pos g0, HM.out]
        have hsm : nums (catB 2 (smL d i)) ++ nums (leB 0 2) = nums (catB 2 (smL d (i + 1))) := by rw [cat_app]; simp only [smL]; rw [if_pos s0, show i / 2048 * 2048 = i by omega, Nat.sub_self]
        have h0 := fun w' => N2.out 0 w' (by omega)
        simp only [show ((0 : Nat) : Int) = 0 from rfl] at h0
        have H0 := Lib.hid h0
        have HGR := Lib.hid hgr
        have HSM := Lib.hid hsm
        have G0 := Lib.hid g0
        clear hgr hsm h0 g0 s0
        go_upto_region 14 with (first
          | (go_at_call 90; (with_reducible refine (N4.out m _ (by omega)).mono ?_); rintro e wn ⟨x, rfl, hx, hbn⟩; obtain ⟨xa, xc, rfl, hxs, _⟩ := hx.sl; (have HXS := Lib.hid hxs); (have HXN := Lib.hid (fun h : xa = none => Ow.nil_cap (h ▸ hx))); (have HT := Lib.hid (HT.out.below hbn)); (have HB := Lib.hid (HB.out.trans (hbn.mono HB.out.size))); clear hx hxs hbn)
          | (at_builtin; (refine wpList_appJ rfl (.tmp 20) (.tmp 22) _ rfl .u8 w.heap.size 5 _ 1 Try.underlying25 Try.infoU8 rfl _ _ rfl (HT.out.o1) _ _ _ _ rfl HXS.out HXN.out (by have := LG.out; have := LS.out; have := LM.out; simp only [nums_len, le_len] at *; omega) (by have := LG.out; have := LS.out; have := LM.out; simp only [nums_len, le_len] at *; omega) HB.out.size ?_; intro v' w' ow' hg' st'; (have HB2 := Lib.hid (HB.out.grown hg' HB.out.size (fun j hj => (HT.out.o1.lt j hj).1))); (have ow2 := ow_to ow' HGR.out); (have HT2 := Lib.hid ((T3.app HT.out ow2 hg' st'))); clear ow' hg' st' ow2; obtain ⟨va, vc, rfl, _, _⟩ := HT2.out.o1.sl; (have HT := HT2); (have HB := HB2)))
          | (go_at_call 90; (with_reducible refine (H0.out _).mono ?_); rintro e wn ⟨x, rfl, hx, hbn⟩; obtain ⟨xa, xc, rfl, hxs, _⟩ := hx.sl; (have HXS := Lib.hid hxs); (have HXN := Lib.hid (fun h : xa = none => Ow.nil_cap (h ▸ hx))); (have HT := Lib.hid (HT.out.below hbn)); (have HB := Lib.hid (HB.out.trans (hbn.mono HB.out.size))); clear hx hxs hbn)
          | (at_builtin; (refine wpList_appJ rfl (.tmp 28) (.tmp 32) _ rfl .u8 w.heap.size 5 _ 1 Try.underlying25 Try.infoU8 rfl _ _ rfl (HT.out.rot.o1) _ _ _ _ rfl HXS.out HXN.out (by have := LG.out; have := LS.out; have := LM.out; simp only [nums_len, le_len] at *; omega) (by have := LG.out; have := LS.out; have := LM.out; simp only [nums_len, le_len] at *; omega) HB.out.size ?_; intro v' w' ow' hg' st'; (have HB2 := Lib.hid (HB.out.grown hg' HB.out.size (fun j hj => (HT.out.rot.o1.lt j hj).1))); (have ow2 := ow_to ow' HSM.out); (have HT2 := Lib.hid ((T3.app HT.out.rot ow2 hg' st').rot.rot)); clear ow' hg' st' ow2; obtain ⟨va, vc, rfl, _, _⟩ := HT2.out.rot.o1.sl; (have HT := HT2); (have HB := HB2))))
        clear e1 e2
        by_cases hbt : btB d i = true
        · have hbcc := HBC.out
          rw [hbt] at hbcc
          have HBT := Lib.hid hbcc
          have hc1 : cntB d (i + 1) = m + 1 := by rw [HC1.out, if_pos hbt]
          have HC2 := Lib.hid hc1
          by_cases m0 : m % 512 = 0
          · have e3 : ((m : Int) % 512 == 0) = true := by simp; omega
            have hmk : nums (catB 4 (mkL d i)) ++ nums (leB i 4) = nums (catB 4 (mkL d (i + 1))) := by rw [cat_app]; simp only [mkL]; rw [if_pos ⟨hbt, by rw [← HM.out]; exact m0⟩]
            have HMK := Lib.hid hmk
            clear hbt hbcc hc1 hmk m0 HBC HC1
            go_wp2_with (first
              | (go_at_call 91; refine (HBT.out _ (HSX.out _ HB.out)).mono ?_; rintro e wb ⟨rfl, rfl⟩)
              | (go_at_call 90; (with_reducible refine (N4.out i _ (by omega)).mono ?_); rintro e wn ⟨x, rfl, hx, hbn⟩; obtain ⟨xa, xc, rfl, hxs, _⟩ := hx.sl; (have HXS := Lib.hid hxs); (have HXN := Lib.hid (fun h : xa = none => Ow.nil_cap (h ▸ hx))); (have HT := Lib.hid (HT.out.below hbn)); (have HB := Lib.hid (HB.out.trans (hbn.mono HB.out.size))); clear hx hxs hbn)
              | (at_builtin; (refine wpList_appJ rfl (.tmp 40) (.tmp 42) _ rfl .u8 w.heap.size 5 _ 1 Try.underlying25 Try.infoU8 rfl _ _ rfl (HT.out.rot.rot.o1) _ _ _ _ rfl HXS.out HXN.out (by have := LG.out; have := LS.out; have := LM.out; simp only [nums_len, le_len] at *; omega) (by have := LG.out; have := LS.out; have := LM.out; simp only [nums_len, le_len] at *; omega) HB.out.size ?_; intro v' w' ow' hg' st'; (have HB2 := Lib.hid (HB.out.grown hg' HB.out.size (fun j hj => (HT.out.rot.rot.o1.lt j hj).1))); (have ow2 := ow_to ow' HMK.out); (have HT2 := Lib.hid ((T3.app HT.out.rot.rot ow2 hg' st').rot)); clear ow' hg' st' ow2; obtain ⟨va, vc, rfl, _, _⟩ := HT2.out.rot.rot.o1.sl; (have HT := HT2); (have HB := HB2))))
            go_roundw
            case rel => exact ⟨i + 1, m + 1, m, by go_num, by omega, by go_num, HC2.out.symm, rfl, fun h => by rw [HM.out, show (i + 1) / 2048 * 2048 = i by have := G0.out; omega], t3_to HT.out rfl rfl rfl, HB.out⟩
            case measure => simp [intOf]; omega
          · have e3 : ((m : Int) % 512 == 0) = false := by simp; omega
            have hmk : mkL d (i + 1) = mkL d i := by simp only [mkL]; rw [if_neg (fun h => m0 (by rw [HM.out]; exact h.2)), List.append_nil]
            have HMK := Lib.hid hmk
            clear hbt hbcc hc1 hmk m0 HBC HC1
            go_wp2_with (go_at_call 91; refine (HBT.out _ (HSX.out _ HB.out)).mono ?_; rintro e wb ⟨rfl, rfl⟩)
            go_roundw
            case rel => exact ⟨i + 1, m + 1, m, by go_num, by omega, by go_num, HC2.out.symm, rfl, fun h => by rw [HM.out, show (i + 1) / 2048 * 2048 = i by have := G0.out; omega], t3_to HT.out rfl rfl (by rw [HMK.out]), HB.out⟩
            case measure => simp [intOf]; omega
        · have hbf : btB d i = false := by simpa using hbt
          have hbcc := HBC.out
          rw [hbf] at hbcc
          have HBT := Lib.hid hbcc
          have hc1 : cntB d (i + 1) = m := by rw [HC1.out, if_neg hbt]; rfl
          have HC2 := Lib.hid hc1
          have hmk : mkL d (i + 1) = mkL d i := by simp only [mkL]; rw [if_neg (fun h => hbt h.1), List.append_nil]
          have HMK := Lib.hid hmk
          clear hbt hbf hbcc hc1 hmk HBC HC1
          go_wp2_with (go_at_call 91; refine (HBT.out _ (HSX.out _ HB.out)).mono ?_; rintro e wb ⟨rfl, rfl⟩)
          go_roundw
          case rel => exact ⟨i + 1, m, m, by go_num, by omega, rfl, HC2.out.symm, rfl, fun h => by rw [HM.out, show (i + 1) / 2048 * 2048 = i by have := G0.out; omega], t3_to HT.out rfl rfl (by rw [HMK.out]), HB.out⟩
          case measure => simp [intOf]; omega
      · have e1 : ((i : Int) % 2048 == 0) = false := by simp; omega
        have ha := HAH.out g0
        have hgr : grL d (i + 1) = grL d i := by simp only [grL]; rw [if_neg g0, List.append_nil]
        have HGR := Lib.hid hgr
        have G0 := Lib.hid g0
        by_cases s0 : i % 256 = 0
        · have e2 : ((i : Int) % 256 == 0) = true := by simp; omega
          have hle : ah ≤ m := by rw [HM.out, ha]; exact cnt_mono d (by omega)
          have hsm : nums (catB 2 (smL d i)) ++ nums (leB (m - ah) 2) = nums (catB 2 (smL d (i + 1))) := by rw [cat_app]; simp only [smL]; rw [if_pos s0, HM.out, ha]
          have h0 := fun w' => N2.out (m - ah) w' (by omega)
          rw [Int.natCast_sub hle] at h0
          have H0 := Lib.hid h0
          have HSM := Lib.hid hsm
          clear hgr hsm h0 g0 s0 ha
          go_upto_region 14 with (first
            | (go_at_call 90; (with_reducible refine (H0.out _).mono ?_); rintro e wn ⟨x, rfl, hx, hbn⟩; obtain ⟨xa, xc, rfl, hxs, _⟩ := hx.sl; (have HXS := Lib.hid hxs); (have HXN := Lib.hid (fun h : xa = none => Ow.nil_cap (h ▸ hx))); (have HT := Lib.hid (HT.out.below hbn)); (have HB := Lib.hid (HB.out.trans (hbn.mono HB.out.size))); clear hx hxs hbn)
            | (at_builtin; (refine wpList_appJ rfl (.tmp 28) (.tmp 32) _ rfl .u8 w.heap.size 5 _ 1 Try.underlying25 Try.infoU8 rfl _ _ rfl (HT.out.rot.o1) _ _ _ _ rfl HXS.out HXN.out (by have := LG.out; have := LS.out; have := LM.out; simp only [nums_len, le_len] at *; omega) (by have := LG.out; have := LS.out; have := LM.out; simp only [nums_len, le_len] at *; omega) HB.out.size ?_; intro v' w' ow' hg' st'; (have HB2 := Lib.hid (HB.out.grown hg' HB.out.size (fun j hj => (HT.out.rot.o1.lt j hj).1))); (have ow2 := ow_to ow' HSM.out); (have HT2 := Lib.hid ((T3.app HT.out.rot ow2 hg' st').rot.rot)); clear ow' hg' st' ow2; obtain ⟨va, vc, rfl, _, _⟩ := HT2.out.rot.o1.sl; (have HT := HT2); (have HB := HB2))))
          clear e1 e2 hle
          by_cases hbt : btB d i = true
          · have hbcc := HBC.out
            rw [hbt] at hbcc
            have HBT := Lib.hid hbcc
            have hc1 : cntB d (i + 1) = m + 1 := by rw [HC1.out, if_pos hbt]
            have HC2 := Lib.hid hc1
            by_cases m0 : m % 512 = 0
            · have e3 : ((m : Int) % 512 == 0) = true := by simp; omega
              have hmk : nums (catB 4 (mkL d i)) ++ nums (leB i 4) = nums (catB 4 (mkL d (i + 1))) := by rw [cat_app]; simp only [mkL]; rw [if_pos ⟨hbt, by rw [← HM.out]; exact m0⟩]
              have HMK := Lib.hid hmk
              clear hbt hbcc hc1 hmk m0 HBC HC1
              go_wp2_with (first
                | (go_at_call 91; refine (HBT.out _ (HSX.out _ HB.out)).mono ?_; rintro e wb ⟨rfl, rfl⟩)
                | (go_at_call 90; (with_reducible refine (N4.out i _ (by omega)).mono ?_); rintro e wn ⟨x, rfl, hx, hbn⟩; obtain ⟨xa, xc, rfl, hxs, _⟩ := hx.sl; (have HXS := Lib.hid hxs); (have HXN := Lib.hid (fun h : xa = none => Ow.nil_cap (h ▸ hx))); (have HT := Lib.hid (HT.out.below hbn)); (have HB := Lib.hid (HB.out.trans (hbn.mono HB.out.size))); clear hx hxs hbn)
                | (at_builtin; (refine wpList_appJ rfl (.tmp 40) (.tmp 42) _ rfl .u8 w.heap.size 5 _ 1 Try.underlying25 Try.infoU8 rfl _ _ rfl (HT.out.rot.rot.o1) _ _ _ _ rfl HXS.out HXN.out (by have := LG.out; have := LS.out; have := LM.out; simp only [nums_len, le_len] at *; omega) (by have := LG.out; have := LS.out; have := LM.out; simp only [nums_len, le_len] at *; omega) HB.out.size ?_; intro v' w' ow' hg' st'; (have HB2 := Lib.hid (HB.out.grown hg' HB.out.size (fun j hj => (HT.out.rot.rot.o1.lt j hj).1))); (have ow2 := ow_to ow' HMK.out); (have HT2 := Lib.hid ((T3.app HT.out.rot.rot ow2 hg' st').rot)); clear ow' hg' st' ow2; obtain ⟨va, vc, rfl, _, _⟩ := HT2.out.rot.rot.o1.sl; (have HT := HT2); (have HB := HB2))))
              go_roundw
              case rel => exact ⟨i + 1, m + 1, ah, by go_num, by omega, by go_num, HC2.out.symm, rfl, fun h => by rw [show (i + 1) / 2048 * 2048 = i / 2048 * 2048 by omega]; exact HAH.out G0.out, t3_to HT.out (by rw [HGR.out]) rfl rfl, HB.out⟩
              case measure => simp [intOf]; omega
            · have e3 : ((m : Int) % 512 == 0) = false := by simp; omega
              have hmk : mkL d (i + 1) = mkL d i := by simp only [mkL]; rw [if_neg (fun h => m0 (by rw [HM.out]; exact h.2)), List.append_nil]
              have HMK := Lib.hid hmk
              clear hbt hbcc hc1 hmk m0 HBC HC1
              go_wp2_with (go_at_call 91; refine (HBT.out _ (HSX.out _ HB.out)).mono ?_; rintro e wb ⟨rfl, rfl⟩)
              go_roundw
              case rel => exact ⟨i + 1, m + 1, ah, by go_num, by omega, by go_num, HC2.out.symm, rfl, fun h => by rw [show (i + 1) / 2048 * 2048 = i / 2048 * 2048 by omega]; exact HAH.out G0.out, t3_to HT.out (by rw [HGR.out]) rfl (by rw [HMK.out]), HB.out⟩
              case measure => simp [intOf]; omega
          · have hbf : btB d i = false := by simpa using hbt
            have hbcc := HBC.out
            rw [hbf] at hbcc
            have HBT := Lib.hid hbcc
            have hc1 : cntB d (i + 1) = m := by rw [HC1.out, if_neg hbt]; rfl
            have HC2 := Lib.hid hc1
            have hmk : mkL d (i + 1) = mkL d i := by simp only [mkL]; rw [if_neg (fun h => hbt h.1), List.append_nil]
            have HMK := Lib.hid hmk
            clear hbt hbf hbcc hc1 hmk HBC HC1
            go_wp2_with (go_at_call 91; refine (HBT.out _ (HSX.out _ HB.out)).mono ?_; rintro e wb ⟨rfl, rfl⟩)
            go_roundw
            case rel => exact ⟨i + 1, m, ah, by go_num, by omega, rfl, HC2.out.symm, rfl, fun h => by rw [show (i + 1) / 2048 * 2048 = i / 2048 * 2048 by omega]; exact HAH.out G0.out, t3_to HT.out (by rw [HGR.out]) rfl (by rw [HMK.out]), HB.out⟩
            case measure => simp [intOf]; omega
        · have e2 : ((i : Int) % 256 == 0) = false := by simp; omega
          have hsm : smL d (i + 1) = smL d i := by simp only [smL]; rw [if_neg s0, List.append_nil]
          have HSM := Lib.hid hsm
          clear hgr hsm g0 s0 ha
          go_upto_region 14 with fail
          clear e1 e2
          by_cases hbt : btB d i = true
          · have hbcc := HBC.out
            rw [hbt] at hbcc
            have HBT := Lib.hid hbcc
            have hc1 : cntB d (i + 1) = m + 1 := by rw [HC1.out, if_pos hbt]
            have HC2 := Lib.hid hc1
            by_cases m0 : m % 512 = 0
            · have e3 : ((m : Int) % 512 == 0) = true := by simp; omega
              have hmk : nums (catB 4 (mkL d i)) ++ nums (leB i 4) = nums (catB 4 (mkL d (i + 1))) := by rw [cat_app]; simp only [mkL]; rw [if_pos ⟨hbt, by rw [← HM.out]; exact m0⟩]
              have HMK := Lib.hid hmk
              clear hbt hbcc hc1 hmk m0 HBC HC1
              go_wp2_with (first
                | (go_at_call 91; refine (HBT.out _ (HSX.out _ HB.out)).mono ?_; rintro e wb ⟨rfl, rfl⟩)
                | (go_at_call 90; (with_reducible refine (N4.out i _ (by omega)).mono ?_); rintro e wn ⟨x, rfl, hx, hbn⟩; obtain ⟨xa, xc, rfl, hxs, _⟩ := hx.sl; (have HXS := Lib.hid hxs); (have HXN := Lib.hid (fun h : xa = none => Ow.nil_cap (h ▸ hx))); (have HT := Lib.hid (HT.out.below hbn)); (have HB := Lib.hid (HB.out.trans (hbn.mono HB.out.size))); clear hx hxs hbn)
                | (at_builtin; (refine wpList_appJ rfl (.tmp 40) (.tmp 42) _ rfl .u8 w.heap.size 5 _ 1 Try.underlying25 Try.infoU8 rfl _ _ rfl (HT.out.rot.rot.o1) _ _ _ _ rfl HXS.out HXN.out (by have := LG.out; have := LS.out; have := LM.out; simp only [nums_len, le_len] at *; omega) (by have := LG.out; have := LS.out; have := LM.out; simp only [nums_len, le_len] at *; omega) HB.out.size ?_; intro v' w' ow' hg' st'; (have HB2 := Lib.hid (HB.out.grown hg' HB.out.size (fun j hj => (HT.out.rot.rot.o1.lt j hj).1))); (have ow2 := ow_to ow' HMK.out); (have HT2 := Lib.hid ((T3.app HT.out.rot.rot ow2 hg' st').rot)); clear ow' hg' st' ow2; obtain ⟨va, vc, rfl, _, _⟩ := HT2.out.rot.rot.o1.sl; (have HT := HT2); (have HB := HB2))))
              go_roundw
              case rel => exact ⟨i + 1, m + 1, ah, by go_num, by omega, by go_num, HC2.out.symm, rfl, fun h => by rw [show (i + 1) / 2048 * 2048 = i / 2048 * 2048 by omega]; exact HAH.out G0.out, t3_to HT.out (by rw [HGR.out]) (by rw [HSM.out]) rfl, HB.out⟩
              case measure => simp [intOf]; omega
            · have e3 : ((m : Int) % 512 == 0) = false := by simp; omega
              have hmk : mkL d (i + 1) = mkL d i := by simp only [mkL]; rw [if_neg (fun h => m0 (by rw [HM.out]; exact h.2)), List.append_nil]
              have HMK := Lib.hid hmk
              clear hbt hbcc hc1 hmk m0 HBC HC1
              go_wp2_with (go_at_call 91; refine (HBT.out _ (HSX.out _ HB.out)).mono ?_; rintro e wb ⟨rfl, rfl⟩)
              go_roundw
              case rel => exact ⟨i + 1, m + 1, ah, by go_num, by omega, by go_num, HC2.out.symm, rfl, fun h => by rw [show (i + 1) / 2048 * 2048 = i / 2048 * 2048 by omega]; exact HAH.out G0.out, t3_to HT.out (by rw [HGR.out]) (by rw [HSM.out]) (by rw [HMK.out]), HB.out⟩
              case measure => simp [intOf]; omega
          · have hbf : btB d i = false := by simpa using hbt
            have hbcc := HBC.out
            rw [hbf] at hbcc
            have HBT := Lib.hid hbcc
            have hc1 : cntB d (i + 1) = m := by rw [HC1.out, if_neg hbt]; rfl
            have HC2 := Lib.hid hc1
            have hmk : mkL d (i + 1) = mkL d i := by simp only [mkL]; rw [if_neg (fun h => hbt h.1), List.append_nil]
            have HMK := Lib.hid hmk
            clear hbt hbf hbcc hc1 hmk HBC HC1
            go_wp2_with (go_at_call 91; refine (HBT.out _ (HSX.out _ HB.out)).mono ?_; rintro e wb ⟨rfl, rfl⟩)
            go_roundw
            case rel => exact ⟨i + 1, m, ah, by go_num, by omega, rfl, HC2.out.symm, rfl, fun h => by rw [show (i + 1) / 2048 * 2048 = i / 2048 * 2048 by omega]; exact HAH.out G0.out, t3_to HT.out (by rw [HGR.out]) (by rw [HSM.out]) (by rw [HMK.out]), HB.out⟩
            case measure => simp [intOf]; omega
    · obtain rfl : i = N := by omega
      have hsx : ∀ w', Below w.heap.size w w' → SlI .u8 w' a n c (nums d) := fun w' h => HS.out.keep h
      have HNIL := Lib.hid hnil
      have HSX := Lib.hid hsx
      have hnd : n = d.length := by have := HS.out.len; rw [nums_len] at this; exact this.symm
      have HND := Lib.hid hnd
      clear hsx hnd
      go_wp2_with (first
        | (go_at_call 90; (with_reducible refine (N4.out i _ (by omega)).mono ?_); rintro e wn ⟨x, rfl, hx, hbn⟩; obtain ⟨zq, hzq, hx⟩ := ow_z hx; obtain ⟨xa, xc, rfl, _, _⟩ := hx.sl; (have HZ0 := Lib.hid hzq); (have HQ := Lib.hid (b4_new HT.out HB.out.size hx hbn)); (have HB := Lib.hid (HB.out.trans (hbn.mono HB.out.size))); clear hx hbn hzq)
        | (go_at_call 90; (with_reducible refine (N4.out m _ (by omega)).mono ?_); rintro e wm ⟨x, rfl, hx, hbn⟩; obtain ⟨ya, yc, rfl, hys, _⟩ := hx.sl; (have HYS := Lib.hid hys); (have HYN := Lib.hid (fun h : ya = none => Ow.nil_cap (h ▸ hx))); (have HQ := Lib.hid (HQ.out.below hbn)); (have HB := Lib.hid (HB.out.trans (hbn.mono HB.out.size))); clear hx hys hbn)
        | (at_builtin; (refine wpList_appJ rfl (.tmp 47) (.tmp 49) _ rfl .u8 w.heap.size 5 _ 1 Try.underlying25 Try.infoU8 rfl _ _ rfl HQ.out.o _ _ _ _ rfl HYS.out HYN.out (by have := LG.out; have := LS.out; have := LM.out; have := HND.out; have q0 := HZ0.out; have q0l := congrArg List.length q0; simp only [List.length_append, nums_len, le_len] at *; omega) (by have := LG.out; have := LS.out; have := LM.out; have := HND.out; have q0 := HZ0.out; have q0l := congrArg List.length q0; simp only [List.length_append, nums_len, le_len] at *; omega) HB.out.size ?_; intro v' w' ow' hg' st'; (have HB2 := Lib.hid (HB.out.grown hg' HB.out.size (fun j hj => (HQ.out.o.lt j hj).1))); obtain ⟨zq, hzq, hq2⟩ := HQ.out.app' ow' hg' st'; (have HQ2 := Lib.hid hq2); (have HZ1 := Lib.hid hzq); clear ow' hg' st' hq2 hzq; obtain ⟨va, vc, rfl, _, _⟩ := HQ2.out.o.sl; (have HQ := HQ2); (have HB := HB2)))
        | (at_builtin; (refine wpList_appJ rfl (.tmp 51) (.tmp 52) _ rfl .u8 w.heap.size 5 _ 1 Try.underlying25 Try.infoU8 rfl _ _ rfl HQ.out.o _ _ _ _ rfl (HSX.out _ HB.out) HNIL.out (by have := LG.out; have := LS.out; have := LM.out; have := HND.out; have q0 := HZ0.out; have q1 := HZ1.out; have q0l := congrArg List.length q0; have q1l := congrArg List.length q1; simp only [List.length_append, nums_len, le_len] at *; omega) (by have := LG.out; have := LS.out; have := LM.out; have := HND.out; have q0 := HZ0.out; have q1 := HZ1.out; have q0l := congrArg List.length q0; have q1l := congrArg List.length q1; simp only [List.length_append, nums_len, le_len] at *; omega) HB.out.size ?_; intro v' w' ow' hg' st'; (have HB2 := Lib.hid (HB.out.grown hg' HB.out.size (fun j hj => (HQ.out.o.lt j hj).1))); obtain ⟨zq, hzq, hq2⟩ := HQ.out.app' ow' hg' st'; (have HQ2 := Lib.hid hq2); (have HZ2 := Lib.hid hzq); clear ow' hg' st' hq2 hzq; obtain ⟨va, vc, rfl, _, _⟩ := HQ2.out.o.sl; (have HQ := HQ2); (have HB := HB2)))
        | (at_builtin; (refine wpList_appJ rfl (.tmp 54) (.tmp 55) _ rfl .u8 w.heap.size 5 _ 1 Try.underlying25 Try.infoU8 rfl _ _ rfl HQ.out.o _ _ _ _ rfl (t3_sl HQ.out.t.o1) (fun h => t3_nil HQ.out.t.o1 h) (by have := LG.out; have := LS.out; have := LM.out; have := HND.out; have q0 := HZ0.out; have q1 := HZ1.out; have q2 := HZ2.out; have q0l := congrArg List.length q0; have q1l := congrArg List.length q1; have q2l := congrArg List.length q2; simp only [List.length_append, nums_len, le_len] at *; omega) (by have := LG.out; have := LS.out; have := LM.out; have := HND.out; have q0 := HZ0.out; have q1 := HZ1.out; have q2 := HZ2.out; have q0l := congrArg List.length q0; have q1l := congrArg List.length q1; have q2l := congrArg List.length q2; simp only [List.length_append, nums_len, le_len] at *; omega) HB.out.size ?_; intro v' w' ow' hg' st'; (have HB2 := Lib.hid (HB.out.grown hg' HB.out.size (fun j hj => (HQ.out.o.lt j hj).1))); obtain ⟨zq, hzq, hq2⟩ := HQ.out.app' ow' hg' st'; (have HQ2 := Lib.hid hq2); (have HZ3 := Lib.hid hzq); clear ow' hg' st' hq2 hzq; obtain ⟨va, vc, rfl, _, _⟩ := HQ2.out.o.sl; (have HQ := HQ2); (have HB := HB2)))
        | (at_builtin; (refine wpList_appJ rfl (.tmp 57) (.tmp 58) _ rfl .u8 w.heap.size 5 _ 1 Try.underlying25 Try.infoU8 rfl _ _ rfl HQ.out.o _ _ _ _ rfl (t3_sl HQ.out.t.o2) (fun h => t3_nil HQ.out.t.o2 h) (by have := LG.out; have := LS.out; have := LM.out; have := HND.out; have q0 := HZ0.out; have q1 := HZ1.out; have q2 := HZ2.out; have q3 := HZ3.out; have q0l := congrArg List.length q0; have q1l := congrArg List.length q1; have q2l := congrArg List.length q2; have q3l := congrArg List.length q3; simp only [List.length_append, nums_len, le_len] at *; omega) (by have := LG.out; have := LS.out; have := LM.out; have := HND.out; have q0 := HZ0.out; have q1 := HZ1.out; have q2 := HZ2.out; have q3 := HZ3.out; have q0l := congrArg List.length q0; have q1l := congrArg List.length q1; have q2l := congrArg List.length q2; have q3l := congrArg List.length q3; simp only [List.length_append, nums_len, le_len] at *; omega) HB.out.size ?_; intro v' w' ow' hg' st'; (have HB2 := Lib.hid (HB.out.grown hg' HB.out.size (fun j hj => (HQ.out.o.lt j hj).1))); obtain ⟨zq, hzq, hq2⟩ := HQ.out.app' ow' hg' st'; (have HQ2 := Lib.hid hq2); (have HZ4 := Lib.hid hzq); clear ow' hg' st' hq2 hzq; obtain ⟨va, vc, rfl, _, _⟩ := HQ2.out.o.sl; (have HQ := HQ2); (have HB := HB2)))
        | (at_builtin; (refine wpList_appJ rfl (.tmp 60) (.tmp 61) _ rfl .u8 w.heap.size 5 _ 1 Try.underlying25 Try.infoU8 rfl _ _ rfl HQ.out.o _ _ _ _ rfl (t3_sl HQ.out.t.o3) (fun h => t3_nil HQ.out.t.o3 h) (by have := LG.out; have := LS.out; have := LM.out; have := HND.out; have q0 := HZ0.out; have q1 := HZ1.out; have q2 := HZ2.out; have q3 := HZ3.out; have q4 := HZ4.out; have q0l := congrArg List.length q0; have q1l := congrArg List.length q1; have q2l := congrArg List.length q2; have q3l := congrArg List.length q3; have q4l := congrArg List.length q4; simp only [List.length_append, nums_len, le_len] at *; omega) (by have := LG.out; have := LS.out; have := LM.out; have := HND.out; have q0 := HZ0.out; have q1 := HZ1.out; have q2 := HZ2.out; have q3 := HZ3.out; have q4 := HZ4.out; have q0l := congrArg List.length q0; have q1l := congrArg List.length q1; have q2l := congrArg List.length q2; have q3l := congrArg List.length q3; have q4l := congrArg List.length q4; simp only [List.length_append, nums_len, le_len] at *; omega) HB.out.size ?_; intro v' w' ow' hg' st'; (have HB2 := Lib.hid (HB.out.grown hg' HB.out.size (fun j hj => (HQ.out.o.lt j hj).1))); obtain ⟨zq, hzq, hq2⟩ := HQ.out.app' ow' hg' st'; (have HQ2 := Lib.hid hq2); (have HZ5 := Lib.hid hzq); clear ow' hg' st' hq2 hzq; obtain ⟨va, vc, rfl, _, _⟩ := HQ2.out.o.sl; (have HQ := HQ2); (have HB := HB2))))
      go_ret
      refine ⟨_, rfl, ow_to HQ.out.o ?_, HB.out⟩
      rw [HZ5.out, HZ4.out, HZ3.out, HZ2.out, HZ1.out, HZ0.out]
      unfold whB
      simp only [nums_append, HM.out]
end Go.Proofs.Ytgajpekolamjbaa
/- Build of any bytes and number: the program's, the document's. -/
namespace Go.Tk
open Go Go.RowKit
def bErr (d : List UInt8) (N : Int) : Int := if N < 0 ∨ 67108864 < N then 2 else if (d.length : Int) < (N + 7) / 8 then 10 else if (N + 7) / 8 < (d.length : Int) then 13 else if padB d N.toNat = false then 12 else 0
theorem bErr_ok {d : List UInt8} {N : Int} (h : bErr d N = 0) : ∃ n : Nat, N = n ∧ n ≤ 67108864 ∧ d.length = (n + 7) / 8 ∧ padB d n = true := by
  unfold bErr at h
  by_cases h1 : N < 0 ∨ 67108864 < N
  · rw [if_pos h1] at h; exact absurd h (by decide)
  rw [if_neg h1] at h
  by_cases h2 : (d.length : Int) < (N + 7) / 8
  · rw [if_pos h2] at h; exact absurd h (by decide)
  rw [if_neg h2] at h
  by_cases h3 : (N + 7) / 8 < (d.length : Int)
  · rw [if_pos h3] at h; exact absurd h (by decide)
  rw [if_neg h3] at h
  obtain ⟨n, rfl⟩ : ∃ n : Nat, N = n := ⟨N.toNat, by omega⟩
  by_cases h4 : padB d n = true
  · exact ⟨n, rfl, by omega, by omega, h4⟩
  · rw [Int.toNat_natCast, if_pos (by simpa using h4)] at h; exact absurd h (by decide)
theorem bErr_yes {d : List UInt8} {n : Nat} (h1 : n ≤ 67108864) (h2 : d.length = (n + 7) / 8) (h3 : padB d n = true) : bErr d n = 0 := by
  unfold bErr
  rw [if_neg (by omega), if_neg (by omega), if_neg (by omega), Int.toNat_natCast, if_neg (by simp [h3])]
end Go.Tk
namespace Go.Proofs.Ytgajpekolamjbaa
open Go.RowKit Go.Tk
set_option maxRecDepth 100000 in
set_option maxHeartbeats 2000000 in
theorem build_no (w : World) (a : Option Addr) (n c : Nat) (d : List UInt8) (N : Int) (hs : SlI .u8 w a n c (nums d)) (hd : n ≤ 140737488351232) (he : bErr d N ≠ 0) :
    Calls Try.prog 43 #[.slice a n c, .int .i64 N] w fun e w' => e = .returned (.tuple #[.slice none 0 0, .int .i64 (bErr d N)]) ∧ w = w' := by
  have hnl := hs.len
  rw [nums_len] at hnl
  have HS := Lib.hid hs
  have HNL := Lib.hid hnl
  unfold bErr at he ⊢
  rw [hnl] at he ⊢
  clear hs hnl
  by_cases h1 : N < 0 ∨ 67108864 < N
  · rw [if_pos h1]
    clear he
    rcases h1 with h1 | h1
    · go_enter Try.func43, Try.ntmps43
      go_wp2
      go_ret2
      exact ⟨rfl, rfl⟩
    · have h0 : ¬ N < 0 := by omega
      go_enter Try.func43, Try.ntmps43
      go_wp2
      go_ret2
      exact ⟨rfl, rfl⟩
  rw [if_neg h1] at he ⊢
  have hN0 : ¬ N < 0 := by omega
  have hN1 : ¬ 67108864 < N := by omega
  have hup := fun w => up_calls N 8 w (by omega) (by omega) (by omega) (by omega)
  have hee : (N + 8 - 1) / 8 = (N + 7) / 8 := by omega
  rw [hee] at hup
  obtain ⟨u, hu⟩ : ∃ u, u = (N + 7) / 8 := ⟨_, rfl⟩
  rw [← hu] at hup he ⊢
  have HUP := Lib.hid hup
  have HU := Lib.hid hu
  clear hup hee h1 hu
  by_cases h2 : (n : Int) < u
  · rw [if_pos h2]
    clear he
    go_enter Try.func43, Try.ntmps43
    go_wp2_with (go_at_call 79; refine (HUP.out _).mono ?_; rintro e w1 ⟨rfl, rfl⟩)
    go_ret2
    exact ⟨rfl, rfl⟩
  rw [if_neg h2] at he ⊢
  by_cases h3 : u < (n : Int)
  · rw [if_pos h3]
    clear he
    go_enter Try.func43, Try.ntmps43
    go_wp2_with (go_at_call 79; refine (HUP.out _).mono ?_; rintro e w1 ⟨rfl, rfl⟩)
    go_ret2
    exact ⟨rfl, rfl⟩
  rw [if_neg h3] at he ⊢
  by_cases h4 : padB d N.toNat = false
  · rw [if_pos h4]
    clear he
    obtain ⟨k, rfl⟩ : ∃ k : Nat, N = k := ⟨N.toNat, by omega⟩
    have hpd := fun w' h => padded_calls w' a n c d k h (by have := HNL.out; have := HU.out; omega) (by omega)
    rw [Int.toNat_natCast] at h4
    rw [h4] at hpd
    have HPD := Lib.hid hpd
    clear hpd h4
    go_enter Try.func43, Try.ntmps43
    go_wp2_with (first
      | (go_at_call 79; refine (HUP.out _).mono ?_; rintro e w1 ⟨rfl, rfl⟩)
      | (go_at_call 80; refine (HPD.out _ HS.out).mono ?_; rintro e w1 ⟨rfl, rfl⟩))
    go_ret2
    exact ⟨rfl, rfl⟩
  · rw [if_neg h4] at he; exact absurd rfl he
end Go.Proofs.Ytgajpekolamjbaa
/- four, two of the program. -/
namespace Go.Tk
open Go Go.RowKit
theorem or_i64 (x y : Nat) (hx : x < 4611686018427387904) (hy : y < 4611686018427387904) : bits .or .i64 (x : Int) (y : Int) = ((x ||| y : Nat) : Int) := by
  have key : (BitVec.ofInt 64 (x : Int) ||| BitVec.ofInt 64 (y : Int)).toNat = x ||| y := by
    rw [BitVec.toNat_or, BitVec.toNat_ofInt, BitVec.toNat_ofInt]
    have e1 : ((x : Int) % ((2 ^ 64 : Nat) : Int)).toNat = x := by omega
    have e2 : ((y : Int) % ((2 ^ 64 : Nat) : Int)).toNat = y := by omega
    rw [e1, e2]
  show IntKind.i64.wrap ((BitVec.ofInt 64 (x : Int) ||| BitVec.ofInt 64 (y : Int)).toNat : Nat) = _
  rw [key, IntKind.wrap_i64]
  have : x ||| y < 2 ^ 62 := Nat.or_lt_two_pow (by omega) (by omega)
  omega
theorem or_hi (i x y : Nat) (hx : x < 2 ^ i) : x ||| (y * 2 ^ i) = x + y * 2 ^ i := by
  rw [Nat.mul_comm, Nat.or_comm, ← Nat.two_pow_add_eq_or_of_lt hx, Nat.add_comm]
theorem or_step (i x y : Nat) (hx : x < 2 ^ i) (hx2 : x < 4611686018427387904) (hy : y * 2 ^ i < 4611686018427387904) : bits .or .i64 (x : Int) ((y : Int) * ((2 ^ i : Nat) : Int)) = ((x + y * 2 ^ i : Nat) : Int) := by
  have := or_i64 x (y * 2 ^ i) hx2 hy
  rw [or_hi i x y hx, Int.natCast_mul] at this
  exact this
/-- Numbers of two, four bytes. -/
def f2 (l : List UInt8) (o : Nat) : Nat := (l.getD o 0).toNat + (l.getD (o + 1) 0).toNat * 256
def f4 (l : List UInt8) (o : Nat) : Nat := (l.getD o 0).toNat + (l.getD (o + 1) 0).toNat * 256 + (l.getD (o + 2) 0).toNat * 65536 + (l.getD (o + 3) 0).toNat * 16777216
theorem f2_lt (l : List UInt8) (o : Nat) : f2 l o < 65536 := by
  have h0 := UInt8.toNat_lt (l.getD o 0)
  have h1 := UInt8.toNat_lt (l.getD (o + 1) 0)
  unfold f2; omega
theorem f4_lt (l : List UInt8) (o : Nat) : f4 l o < 4294967296 := by
  have h0 := UInt8.toNat_lt (l.getD o 0)
  have h1 := UInt8.toNat_lt (l.getD (o + 1) 0)
  have h2 := UInt8.toNat_lt (l.getD (o + 2) 0)
  have h3 := UInt8.toNat_lt (l.getD (o + 3) 0)
  unfold f4; omega
end Go.Tk
namespace Go.Proofs.Ytgajpekolamjbaa
open Go.RowKit Go.Tk
theorem byte_cell {w : World} {a : Option Addr} {n c : Nat} {l : List UInt8} (h : SlI .u8 w a n c (nums l)) (i : Nat) (hi : i < n) : ∃ b o, a = some ⟨b, o, none⟩ ∧ w.cell? ⟨b, o + i, none⟩ = some (.int .u8 ((l.getD i 0).toNat : Nat)) := by
  have hl : l.length = n := by have := h.len; rwa [nums_len] at this
  obtain ⟨b, o, e, hc⟩ := h.cell i hi
  refine ⟨b, o, e, ?_⟩
  rw [hc, nums_getD l i (by omega), List.getD_eq_getElem?_getD, List.getElem?_eq_getElem (by omega)]
  rfl
set_option maxRecDepth 100000 in
set_option maxHeartbeats 1000000 in
theorem two_calls (w : World) (a : Option Addr) (n c : Nat) (l : List UInt8) (h : SlI .u8 w a n c (nums l)) (hn : 2 ≤ n) :
    Calls Try.prog 100 #[.slice a n c] w fun e w' => e = .returned (.int .i64 (f2 l 0 : Nat)) ∧ ∃ k, w' = w.drewN k := by
  obtain ⟨b, o, rfl, c0⟩ := byte_cell h 0 (by omega)
  obtain ⟨b', o', e, c1⟩ := byte_cell h 1 (by omega)
  obtain ⟨rfl, rfl⟩ : b = b' ∧ o = o' := by simpa using e
  unfold f2
  rw [Nat.add_zero] at c0
  have h0 := UInt8.toNat_lt (l.getD 0 0)
  have h1 := UInt8.toNat_lt (l.getD 1 0)
  simp only [Nat.zero_add]
  obtain ⟨y0, hy0⟩ : ∃ y, y = (l.getD 0 0).toNat := ⟨_, rfl⟩
  obtain ⟨y1, hy1⟩ : ∃ y, y = (l.getD 1 0).toNat := ⟨_, rfl⟩
  rw [← hy0] at c0 h0 ⊢
  rw [← hy1] at c1 h1 ⊢
  obtain ⟨z1, hz1⟩ : ∃ z, z = y0 + y1 * 256 := ⟨_, rfl⟩
  have e1 := or_step 8 y0 y1 h0 (by omega) (by omega)
  rw [show (2 : Nat) ^ 8 = 256 from rfl, ← hz1] at e1
  rw [show (((2 : Nat) ^ 8 : Nat) : Int) = 256 from rfl] at e1
  rw [← hz1]
  clear h e hy0 hy1 hz1
  go_enter Try.func100, Try.ntmps100
  go_wp2_with fail
  go_quiet (fail)
  go_wp2
  go_ret
  exact ⟨rfl, _, rfl⟩
set_option maxRecDepth 100000 in
set_option maxHeartbeats 1000000 in
theorem four_calls (w : World) (a : Option Addr) (n c : Nat) (l : List UInt8) (h : SlI .u8 w a n c (nums l)) (hn : 4 ≤ n) :
    Calls Try.prog 99 #[.slice a n c] w fun e w' => e = .returned (.int .i64 (f4 l 0 : Nat)) ∧ ∃ k, w' = w.drewN k := by
  obtain ⟨b, o, rfl, c0⟩ := byte_cell h 0 (by omega)
  obtain ⟨b', o', e, c1⟩ := byte_cell h 1 (by omega)
  obtain ⟨rfl, rfl⟩ : b = b' ∧ o = o' := by simpa using e
  obtain ⟨b', o', e', c2⟩ := byte_cell h 2 (by omega)
  obtain ⟨rfl, rfl⟩ : b = b' ∧ o = o' := by simpa using e'
  obtain ⟨b', o', e'', c3⟩ := byte_cell h 3 (by omega)
  obtain ⟨rfl, rfl⟩ : b = b' ∧ o = o' := by simpa using e''
  unfold f4
  rw [Nat.add_zero] at c0
  simp only [Nat.zero_add]
  have h0 := UInt8.toNat_lt (l.getD 0 0)
  have h1 := UInt8.toNat_lt (l.getD 1 0)
  have h2 := UInt8.toNat_lt (l.getD 2 0)
  have h3 := UInt8.toNat_lt (l.getD 3 0)
  obtain ⟨y0, hy0⟩ : ∃ y, y = (l.getD 0 0).toNat := ⟨_, rfl⟩
  obtain ⟨y1, hy1⟩ : ∃ y, y = (l.getD 1 0).toNat := ⟨_, rfl⟩
  obtain ⟨y2, hy2⟩ : ∃ y, y = (l.getD 2 0).toNat := ⟨_, rfl⟩
  obtain ⟨y3, hy3⟩ : ∃ y, y = (l.getD 3 0).toNat := ⟨_, rfl⟩
  rw [← hy0] at c0 h0 ⊢
  rw [← hy1] at c1 h1 ⊢
  rw [← hy2] at c2 h2 ⊢
  rw [← hy3] at c3 h3 ⊢
  obtain ⟨z1, hz1⟩ : ∃ z, z = y0 + y1 * 256 := ⟨_, rfl⟩
  have e1 := or_step 8 y0 y1 h0 (by omega) (by omega)
  rw [show (2 : Nat) ^ 8 = 256 from rfl, ← hz1] at e1
  rw [show (((2 : Nat) ^ 8 : Nat) : Int) = 256 from rfl] at e1
  rw [← hz1]
  obtain ⟨z2, hz2⟩ : ∃ z, z = z1 + y2 * 65536 := ⟨_, rfl⟩
  have e2 := or_step 16 z1 y2 (by omega) (by omega) (by omega)
  rw [show (2 : Nat) ^ 16 = 65536 from rfl, ← hz2] at e2
  rw [show (((2 : Nat) ^ 16 : Nat) : Int) = 65536 from rfl] at e2
  rw [← hz2]
  obtain ⟨z3, hz3⟩ : ∃ z, z = z2 + y3 * 16777216 := ⟨_, rfl⟩
  have e3 := or_step 24 z2 y3 (by omega) (by omega) (by omega)
  rw [show (2 : Nat) ^ 24 = 16777216 from rfl, ← hz3] at e3
  rw [show (((2 : Nat) ^ 24 : Nat) : Int) = 16777216 from rfl] at e3
  rw [← hz3]
  clear h e e' e'' hy0 hy1 hy2 hy3 hz1 hz2 hz3
  go_enter Try.func99, Try.ntmps99
  go_wp2_with fail
  go_quiet (fail)
  go_wp2
  go_ret
  exact ⟨rfl, _, rfl⟩
end Go.Proofs.Ytgajpekolamjbaa
/- A vector's object; Len, Ones, Bit, Rank, Rank0. -/
namespace Go.Tk
open Go Go.RowKit
def oG (n : Nat) : Nat := 8 + (n + 7) / 8
def oS (n : Nat) : Nat := oG n + 4 * ((n + 2047) / 2048)
def oM (n : Nat) : Nat := oS n + 2 * ((n + 255) / 256)
def oE (n m : Nat) : Nat := oM n + 4 * ((m + 511) / 512)
/-- The data of a vector's bytes, and all behind them. -/
def datB (bs : List UInt8) : List UInt8 := bs.drop 8
/-- What Rank reckons at a place inside. -/
def rawV (bs : List UInt8) (n i : Nat) : Nat := f4 bs (oG n + 4 * (i / 2048)) + f2 bs (oS n + 2 * (i / 256)) + (cntB (datB bs) i - cntB (datB bs) (i / 256 * 256))
def rankV (bs : List UInt8) (n m : Nat) (i : Int) : Nat := if i ≤ 0 ∨ n = 0 then 0 else if (n : Int) ≤ i then m else min (rawV bs n i.toNat) i.toNat
theorem drop_getD (l : List UInt8) (p i : Nat) : (l.drop p).getD i 0 = l.getD (p + i) 0 := by
  simp [List.getD_eq_getElem?_getD, List.getElem?_drop]
theorem f4_drop (l : List UInt8) (p : Nat) : f4 (l.drop p) 0 = f4 l p := by
  unfold f4; simp only [drop_getD, Nat.zero_add, Nat.add_zero]
theorem f2_drop (l : List UInt8) (p : Nat) : f2 (l.drop p) 0 = f2 l p := by
  unfold f2; simp only [drop_getD, Nat.zero_add, Nat.add_zero]
theorem quiet_dr {P : Program} {w : World} {f : FuncId} {args : Array Value} {n : Nat} {v : Value}
    (h : Calls P f args (w.drewN n) fun e w' => e = .returned v ∧ ∃ k, w' = (w.drewN n).drewN k) : Calls P f args (w.drewN n) fun e w'' => e = .returned v ∧ ∃ m, w'' = w.drewN m :=
  h.mono fun _ _ ⟨he, k, hk⟩ => ⟨he, n + k, by rw [hk]; simp [World.drewN, Nat.add_assoc]⟩
theorem byte_low : ∀ y : Fin 256, ∀ v : Fin 8, Lib.onesCount (y.val % 2 ^ v.val) = (List.range v.val).foldl (fun a j => a + (if y.val.testBit j = true then 1 else 0)) 0 := by decide +kernel
theorem cnt_low (d : List UInt8) (q : Nat) (v : Nat) (hv : v < 8) : cntB d (8 * q + v) = cntB d (8 * q) + Lib.onesCount ((d.getD q 0).toNat % 2 ^ v) := by
  have h := byte_low ⟨(d.getD q 0).toNat, UInt8.toNat_lt _⟩ ⟨v, hv⟩
  simp only at h
  rw [h]
  have e : ∀ j, j < 8 → btB d (8 * q + j) = (d.getD q 0).toNat.testBit j := fun j hj => bt_at d q j hj
  have key : ∀ k, k ≤ 8 → cntB d (8 * q + k) = cntB d (8 * q) + (List.range k).foldl (fun a j => a + (if (d.getD q 0).toNat.testBit j = true then 1 else 0)) 0 := by
    intro k
    induction k with
    | zero => intro _; rfl
    | succ k ih =>
      intro hk
      rw [← Nat.add_assoc]
      simp only [cntB]
      rw [ih (by omega), e k (by omega), List.range_succ, List.foldl_append]
      simp only [List.foldl_cons, List.foldl_nil]
      omega
  exact key v (by omega)
theorem pow7 {v : Nat} (h : v < 8) : 2 ^ v ≤ 128 := by
  have : ∀ v : Fin 8, 2 ^ v.val ≤ 128 := by decide
  exact this ⟨v, h⟩
theorem mask_and : ∀ y : Fin 256, ∀ v : Fin 8, bits .and .u8 (y.val : Int) (2 ^ v.val - 1) = ((y.val % 2 ^ v.val : Nat) : Int) := by decide +kernel
end Go.Tk
namespace Go.Proofs.Ytgajpekolamjbaa
open Go.RowKit Go.Tk
structure VecAt (w : World) (gv : Nat) (a : Option Addr) (c : Nat) (bs : List UInt8) (n m : Nat) : Prop where
  row : w.heap[gv]? = some (.cells #[.slice a bs.length c, .int .i64 (n : Nat), .int .i64 (m : Nat), .int .i64 8, .int .i64 (oG n : Nat), .int .i64 (oS n : Nat), .int .i64 (oM n : Nat), .int .i64 (oE n m : Nat)] 160 (0, 0))
  sl : SlI .u8 w a bs.length c (nums bs)
  fit : bs.length = oE n m
  mn : m ≤ n
  nN : n ≤ 67108864
theorem VecAt.drewN {w gv a c bs n m} (h : VecAt w gv a c bs n m) (k : Nat) : VecAt (w.drewN k) gv a c bs n m := ⟨h.row, h.sl.drewN k, h.fit, h.mn, h.nN⟩
theorem VecAt.k0 {w gv a c bs n m} (h : VecAt w gv a c bs n m) : w.cell? ⟨gv, 0, none⟩ = some (.slice a bs.length c) := cell_of_row w gv 0 _ _ _ h.row
theorem VecAt.k1 {w gv a c bs n m} (h : VecAt w gv a c bs n m) : w.cell? ⟨gv, 1, none⟩ = some (.int .i64 (n : Nat)) := cell_of_row w gv 1 _ _ _ h.row
theorem VecAt.k2 {w gv a c bs n m} (h : VecAt w gv a c bs n m) : w.cell? ⟨gv, 2, none⟩ = some (.int .i64 (m : Nat)) := cell_of_row w gv 2 _ _ _ h.row
theorem VecAt.k3 {w gv a c bs n m} (h : VecAt w gv a c bs n m) : w.cell? ⟨gv, 3, none⟩ = some (.int .i64 8) := cell_of_row w gv 3 _ _ _ h.row
theorem VecAt.k4 {w gv a c bs n m} (h : VecAt w gv a c bs n m) : w.cell? ⟨gv, 4, none⟩ = some (.int .i64 (oG n : Nat)) := cell_of_row w gv 4 _ _ _ h.row
theorem VecAt.k5 {w gv a c bs n m} (h : VecAt w gv a c bs n m) : w.cell? ⟨gv, 5, none⟩ = some (.int .i64 (oS n : Nat)) := cell_of_row w gv 5 _ _ _ h.row
theorem cell_bytes {w : World} {b o n c : Nat} {l : List UInt8} (h : SlI .u8 w (some ⟨b, o, none⟩) n c (nums l)) (i : Nat) (hi : i < n) : w.cell? ⟨b, o + i, none⟩ = some (.int .u8 ((l.getD i 0).toNat : Nat)) := by
  obtain ⟨b', o', e, hc⟩ := byte_cell h i hi
  obtain ⟨rfl, rfl⟩ : b = b' ∧ o = o' := by simpa using e
  exact hc
theorem len_calls {w gv a c bs n m} (h : VecAt w gv a c bs n m) : Calls Try.prog 59 #[.pointer (some ⟨gv, 0, none⟩)] w fun e w' => e = .returned (.int .i64 (n : Nat)) ∧ w = w' := by
  have k1 := h.k1
  clear h
  go_enter Try.func59, Try.ntmps59
  go_wp2
  go_ret
  exact ⟨rfl, rfl⟩
theorem ones_calls {w gv a c bs n m} (h : VecAt w gv a c bs n m) : Calls Try.prog 60 #[.pointer (some ⟨gv, 0, none⟩)] w fun e w' => e = .returned (.int .i64 (m : Nat)) ∧ w = w' := by
  have k2 := h.k2
  clear h
  go_enter Try.func60, Try.ntmps60
  go_wp2
  go_ret
  exact ⟨rfl, rfl⟩
set_option maxRecDepth 100000 in
set_option maxHeartbeats 2000000 in
theorem rank_in {w gv a c bs n m} (h : VecAt w gv a c bs n m) (i : Nat) (h0 : 0 < i) (hi : i < n) : Calls Try.prog 63 #[.pointer (some ⟨gv, 0, none⟩), .int .i64 (i : Nat)] w fun e w' => e = .returned (.int .i64 (min (rawV bs n i) i : Nat)) ∧ ∃ k, w' = w.drewN k := by
  have k0 := h.k0
  have k1 := h.k1
  have k3 := h.k3
  have k4 := h.k4
  have k5 := h.k5
  have hfit := h.fit
  have hmn := h.mn
  have hnN := h.nN
  have hlen := h.sl.le
  have hmax := h.sl.max
  have hS4 : oG n + 4 * (i / 2048) + 4 ≤ oS n := by unfold oS; omega
  have hM2 : oS n + 2 * (i / 256) + 2 ≤ oM n := by unfold oM; omega
  have hE : oM n ≤ bs.length := by rw [hfit]; unfold oE; omega
  have hSM : oS n ≤ oM n := by unfold oM; omega
  have hG8 : 8 + i / 8 < oG n := by unfold oG; omega
  have hbig : bs.length ≤ 100000000 := by rw [hfit]; unfold oE oM oS oG; omega
  obtain ⟨b, o, rfl, _⟩ := h.sl.cell 0 (by omega)
  have s4 := h.sl.tail (oG n + 4 * (i / 2048)) (by omega)
  have s2 := h.sl.tail (oS n + 2 * (i / 256)) (by omega)
  rw [nums_drop, if_neg (by omega)] at s4 s2
  simp only [Option.map_some, Addr.add_lit] at s4 s2
  have hf4 := fun k => four_calls (w.drewN k) _ _ _ _ (s4.drewN k) (by omega)
  have hf2 := fun k => two_calls (w.drewN k) _ _ _ _ (s2.drewN k) (by omega)
  simp only [f4_drop] at hf4
  simp only [f2_drop] at hf2
  have hraw : rawV bs n i = f4 bs (oG n + 4 * (i / 2048)) + f2 bs (oS n + 2 * (i / 256)) + (cntB (datB bs) i - cntB (datB bs) (i / 256 * 256)) := rfl
  have b4 := f4_lt bs (oG n + 4 * (i / 2048))
  have b2 := f2_lt bs (oS n + 2 * (i / 256))
  obtain ⟨x4, hx4⟩ : ∃ x, x = f4 bs (oG n + 4 * (i / 2048)) := ⟨_, rfl⟩
  obtain ⟨x2, hx2⟩ : ∃ x, x = f2 bs (oS n + 2 * (i / 256)) := ⟨_, rfl⟩
  rw [← hx4] at hf4 hraw b4
  rw [← hx2] at hf2 hraw b2
  have hcb := fun j => cell_bytes h.sl j
  have HF4 := Lib.hid hf4
  have HF2 := Lib.hid hf2
  have HR := Lib.hid hraw
  have HCB := Lib.hid hcb
  clear h s4 s2 hf4 hf2 hraw hfit hcb hx4 hx2
  obtain ⟨G, hG⟩ : ∃ G, G = oG n := ⟨_, rfl⟩
  obtain ⟨Sm, hSm⟩ : ∃ S, S = oS n := ⟨_, rfl⟩
  rw [← hG] at *
  rw [← hSm] at *
  go_enter Try.func63, Try.ntmps63
  go_wp2_with fail
  go_quiet (first
    | (go_at_call 99; exact quiet_dr (HF4.out _))
    | (go_at_call 100; exact quiet_dr (HF2.out _)))
  go_wp2_with fail
  obtain ⟨F, hF⟩ : ∃ F, F = i / 256 * 256 := ⟨_, rfl⟩
  have HFF := Lib.hid hF
  clear hF
  go_loopw [5, 7] (fun rv tv wr => ∃ (A R k : Nat), tv = .int .i64 (A : Nat) ∧ F ≤ A ∧ A ≤ i ∧ A % 8 = 0 ∧ rv = .int .i64 (R : Nat) ∧ R = x4 + x2 + (cntB (datB bs) A - cntB (datB bs) F) ∧ wr = w.drewN k) (fun _ tv _ => i - (intOf tv).toNat)
  case atStart => exact ⟨F, x4 + x2, nq, by rw [HFF.out]; go_num, Nat.le_refl _, by rw [HFF.out]; omega, by rw [HFF.out]; omega, by go_num, by omega, rfl⟩
  case round =>
    obtain ⟨A, R, k, rfl, hFA, hAi, hA8, rfl, hR, hk⟩ := hrel
    have hcell : wr.cell? ⟨b, o + (8 + A / 8), none⟩ = some (.int .u8 ((bs.getD (8 + A / 8) 0).toNat : Nat)) := by rw [hk]; exact HCB.out (8 + A / 8) (by omega)
    have r0 : wr.cell? ⟨gv, 0, none⟩ = some (.slice (some ⟨b, o, none⟩) bs.length c) := by rw [hk]; exact k0
    have r3 : wr.cell? ⟨gv, 3, none⟩ = some (.int .i64 8) := by rw [hk]; exact k3
    have HK := Lib.hid hk
    clear hk
    have hcm := cnt_mono (datB bs) hFA
    have hca := cnt_le (datB bs) A
    have HRR := Lib.hid hR
    have hRb : R ≤ 4294967296 + 65536 + 67108864 := by omega
    have hdat : bs.getD (8 + A / 8) 0 = (datB bs).getD (A / 8) 0 := by unfold datB; rw [drop_getD]
    rw [hdat] at hcell
    obtain ⟨y, hy⟩ : ∃ y : Nat, y = ((datB bs).getD (A / 8) 0).toNat := ⟨_, rfl⟩
    rw [← hy] at hcell
    have hy2 : y ≤ 255 := by rw [hy]; have := UInt8.toNat_lt ((datB bs).getD (A / 8) 0); omega
    by_cases hin : A + 8 ≤ i
    · obtain ⟨t, ht⟩ : ∃ t, t = Lib.onesCount y := ⟨_, rfl⟩
      have hcall := fun w => Try.bits_OnesCount8 (y : Int) w (by omega) (by omega)
      rw [Int.toNat_natCast, ← ht] at hcall
      have hcb := cnt_byte (datB bs) (A / 8)
      rw [← hy, ← ht, show 8 * (A / 8) = A by omega] at hcb
      have hle := cnt_le (datB bs) (A + 8)
      have hq := fun q => (hcall (wr.drewN q)).mono fun e w' (h : e = _ ∧ w' = wr.drewN q) => (show e = _ ∧ ∃ m, w' = wr.drewN m from ⟨h.1, q, h.2⟩)
      have HQ := Lib.hid hq
      have HCBY := Lib.hid hcb
      have htb : t ≤ 8 := by have := cnt_add (datB bs) A 8; omega
      clear hcall hcb hq hy ht hdat hR hle k0 k1 k3 k4 k5
      go_wp2_with fail
      go_quiet ((go_at_call 101; exact HQ.out _))
      go_wp2_with fail
      go_roundw
      case rel => exact ⟨A + 8, R + t, k + nq, by go_num, by omega, hin, by omega, by go_num, by rw [HRR.out, HCBY.out]; omega, by rw [HK.out]; simp [World.drewN, Nat.add_assoc]⟩
      case measure => simp [intOf]; omega
    · have hAq : A = 8 * (A / 8) := by omega
      have hiq : i = 8 * (A / 8) + i % 8 := by omega
      have hm8 : i % 8 < 8 := by omega
      have hlow := cnt_low (datB bs) (A / 8) (i % 8) hm8
      rw [← hAq, ← hy] at hlow
      have hiA : A + i % 8 = i := by omega
      rw [hiA] at hlow
      have hand := mask_and ⟨y, by omega⟩ ⟨i % 8, hm8⟩
      simp only at hand
      obtain ⟨z, hz⟩ : ∃ z, z = y % 2 ^ (i % 8) := ⟨_, rfl⟩
      rw [← hz] at hand hlow
      have hz2 : z ≤ 255 := by rw [hz]; exact Nat.le_trans (Nat.mod_le _ _) hy2
      obtain ⟨t, ht⟩ : ∃ t, t = Lib.onesCount z := ⟨_, rfl⟩
      rw [← ht] at hlow
      have hcall := fun w => Try.bits_OnesCount8 (z : Int) w (by omega) (by omega)
      rw [Int.toNat_natCast, ← ht] at hcall
      have hq := fun q => (hcall (wr.drewN q)).mono fun e w' (h : e = _ ∧ w' = wr.drewN q) => (show e = _ ∧ ∃ m, w' = wr.drewN m from ⟨h.1, q, h.2⟩)
      have HQ := Lib.hid hq
      have hle := cnt_le (datB bs) i
      have hAi8 : A / 8 = i / 8 := by omega
      have hRt : R + t = rawV bs n i := by rw [HR.out, HRR.out, ← HFF.out, hlow]; omega
      have hRt2 : R + t ≤ 4400000000 := by omega
      have HRT := Lib.hid hRt
      rw [hAi8] at hcell
      have hw1 : IntKind.i64.wrap ((i : Int) / 8) = (i : Int) / 8 := by rw [IntKind.wrap_i64]; omega
      have hw2 : IntKind.i64.wrap (8 + (i : Int) / 8) = 8 + (i : Int) / 8 := by rw [IntKind.wrap_i64]; omega
      have hw3 : (i : Int) % 8 = ((i % 8 : Nat) : Int) := rfl
      have hbi : i ≤ 67108864 := by omega
      have htn : (8 + (i : Int) / 8).toNat = 8 + i / 8 := by omega
      have htm : ((i : Int) % 8).toNat = i % 8 := by omega
      have hp7 : 2 ^ (i % 8) ≤ 128 := pow7 hm8
      have hp0 : 1 ≤ 2 ^ (i % 8) := Nat.one_le_two_pow
      have hpz : ((2 : Int) ^ (i % 8)) = ((2 ^ (i % 8) : Nat) : Int) := by rw [Int.natCast_pow]; rfl
      have hw5 : IntKind.u8.wrap ((2 : Int) ^ (i % 8)) = (2 : Int) ^ (i % 8) := by rw [hpz, IntKind.wrap_u8]; omega
      have hw6 : IntKind.u8.wrap ((2 : Int) ^ (i % 8) - 1) = (2 : Int) ^ (i % 8) - 1 := by rw [hpz, IntKind.wrap_u8]; omega
      clear hpz hp7 hp0
      have hix : 8 + i / 8 < bs.length := by omega
      have hix2 : (8 : Int) + (i : Int) / 8 < (bs.length : Int) := by omega
      have hix3 : (0 : Int) ≤ 8 + (i : Int) / 8 := by omega
      clear hcall hq hy ht hdat hR hle k0 k1 k3 k4 k5 hlow hz hAq hiq hiA hRt hAi8
      go_wp2_with fail
      have htr : ((i : Int).tmod 8) = (i : Int) % 8 := Int.tmod_eq_emod_of_nonneg (by omega)
      have hw7 : IntKind.i64.wrap ((R : Int) + (t : Int)) = (R : Int) + (t : Int) := by rw [IntKind.wrap_i64]; omega
      have hmin : min (i % 8) 8 = i % 8 := by omega
      have htz : (0 : Int) ≤ (i : Int) % 8 := by omega
      clear HF4 HF2 HR HCB hG hSm hw3
      refine wp_region_quiet_all (fun w' => ∃ q, w' = wr.drewN q) (by kernel_rfl) (by kernel_rfl) ⟨1, rfl⟩ ?_
      refine wq_val (.int .i64 (R : Nat)) rfl (fun w' _ => by simp [go_sem]) ?_
      refine wq_val (.pointer (some ⟨gv, 0, none⟩)) rfl (fun w' _ => by simp [go_sem]) ?_
      refine wq_val (.pointer (some ⟨gv, 0, none⟩)) rfl (fun w' _ => by simp [go_sem]) ?_
      simp only [go_sem, List.setIfInBounds_toArray, List.set_cons_succ, List.set_cons_zero]
      refine wq_val (.pointer (some ⟨gv, 0, none⟩)) rfl (fun w' _ => by simp [go_sem]) ?_
      refine wq_val (.slice (some ⟨b, o, none⟩) bs.length c) rfl (fun w' h => by obtain ⟨q, rfl⟩ := h; simp [go_sem, r0]) ?_
      simp only [go_sem, List.setIfInBounds_toArray, List.set_cons_succ, List.set_cons_zero]
      refine wq_val (.pointer (some ⟨gv, 0, none⟩)) rfl (fun w' _ => by simp [go_sem]) ?_
      simp only [go_sem, List.setIfInBounds_toArray, List.set_cons_succ, List.set_cons_zero]
      refine wq_val (.pointer (some ⟨gv, 0, none⟩)) rfl (fun w' _ => by simp [go_sem]) ?_
      refine wq_val (.pointer (some ⟨gv, 3, none⟩)) rfl (fun w' _ => by simp [go_sem]) ?_
      refine wq_val (.pointer (some ⟨gv, 3, none⟩)) rfl (fun w' _ => by simp [go_sem]) ?_
      simp only [go_sem, List.setIfInBounds_toArray, List.set_cons_succ, List.set_cons_zero]
      refine wq_val (.int .i64 8) rfl (fun w' h => by obtain ⟨q, rfl⟩ := h; simp [go_sem, r3]) ?_
      simp only [go_sem, List.setIfInBounds_toArray, List.set_cons_succ, List.set_cons_zero]
      refine wq_val (.int .i64 (i : Nat)) rfl (fun w' _ => by simp [go_sem]) ?_
      refine wq_val (.int .i64 ((i : Int) / 8)) rfl (fun w' _ => by simp [go_sem, hw1]) ?_
      simp only [go_sem, List.setIfInBounds_toArray, List.set_cons_succ, List.set_cons_zero]
      refine wq_val (.int .i64 (8 + (i : Int) / 8)) rfl (fun w' _ => by simp [go_sem, hw2]) ?_
      refine wq_val (.pointer (some ⟨b, o + (8 + i / 8), none⟩)) rfl (fun w' _ => by simp [go_sem, hix2, hix3, htn]) ?_
      refine wq_val (.int .u8 (y : Nat)) rfl (fun w' h => by obtain ⟨q, rfl⟩ := h; simp [go_sem, hcell]) ?_
      simp only [go_sem, List.setIfInBounds_toArray, List.set_cons_succ, List.set_cons_zero]
      refine wq_val (.int .i64 (i : Nat)) rfl (fun w' _ => by simp [go_sem]) ?_
      refine wq_val (.int .i64 ((i : Int) % 8)) rfl (fun w' _ => by simp [go_sem, htr]) ?_
      refine wq_val (.int .u8 ((2 : Int) ^ (i % 8))) rfl (fun w' _ => by simp [go_sem, htm, hw5, hmin, htz]) ?_
      simp only [go_sem, List.setIfInBounds_toArray, List.set_cons_succ, List.set_cons_zero]
      refine wq_val (.int .u8 ((2 : Int) ^ (i % 8) - 1)) rfl (fun w' _ => by simp [go_sem, hw6]) ?_
      refine wq_val (.int .u8 (z : Nat)) rfl (fun w' _ => by simp [go_sem, hand]) ?_
      refine wq_call (.int .i64 (t : Nat)) 101 #[.int .u8 (z : Nat)] rfl (fun w' => by simp [go_sem]) (fun w' h => by obtain ⟨q, rfl⟩ := h; exact HQ.out q) ?_
      simp only [go_sem, List.setIfInBounds_toArray, List.set_cons_succ, List.set_cons_zero]
      refine wq_val (.int .i64 ((R : Int) + (t : Int))) rfl (fun w' _ => by simp [go_sem, hw7]) ?_
      refine wq_val (.int .i64 ((R : Int) + (t : Int))) rfl (fun w' _ => by simp [go_sem]) ?_
      simp only [go_sem, List.setIfInBounds_toArray, List.set_cons_succ, List.set_cons_zero]
      refine wpQuiet_nil ?_
      rintro _ ⟨q9, rfl⟩
      go_wp2_with fail
      go_ret
      refine ⟨ret_int ?_, ?_⟩
      · rw [← HRT.out]; omega
      · rw [HK.out]; exact ⟨k + q9, by simp [World.drewN, Nat.add_assoc]⟩
theorem rank_calls {w gv a c bs n m} (h : VecAt w gv a c bs n m) (i : Int) (hw : -9223372036854775808 ≤ i ∧ i ≤ 9223372036854775807) : Calls Try.prog 63 #[.pointer (some ⟨gv, 0, none⟩), .int .i64 i] w fun e w' => e = .returned (.int .i64 (rankV bs n m i : Nat)) ∧ ∃ k, w' = w.drewN k := by
  unfold rankV
  have k1 := h.k1
  have k2 := h.k2
  by_cases h1 : i ≤ 0
  · rw [if_pos (.inl h1)]
    clear h
    go_enter Try.func63, Try.ntmps63
    go_wp2
    go_ret
    exact ⟨rfl, 0, rfl⟩
  by_cases h2 : n = 0
  · rw [if_pos (.inr h2)]
    subst h2
    clear h
    go_enter Try.func63, Try.ntmps63
    go_wp2
    go_ret
    exact ⟨rfl, 0, rfl⟩
  rw [if_neg (fun hh => by rcases hh with hh | hh; exact h1 hh; exact h2 hh)]
  by_cases h3 : (n : Int) ≤ i
  · rw [if_pos h3]
    clear h
    have e1 : ((n : Int) == 0) = false := beq_false_of_ne (by omega)
    go_enter Try.func63, Try.ntmps63
    go_wp2
    go_ret
    exact ⟨rfl, 0, rfl⟩
  · rw [if_neg h3]
    obtain ⟨k, rfl⟩ : ∃ k : Nat, i = k := ⟨i.toNat, by omega⟩
    rw [Int.toNat_natCast]
    exact rank_in h k (by omega) (by omega)
end Go.Proofs.Ytgajpekolamjbaa
