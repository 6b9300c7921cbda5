/- TrC TrD, laid as one. -/
import Derived.Test.YtgajpekolamjbaaTrB
import Derived.Test.YtgajpekolamjbaaTrG
import Derived.Test.YtgajpekolamjbaaOwB
set_option linter.unusedVariables false
set_option linter.unusedSimpArgs false
/- A level while it is built: put, close. -/
namespace Go.Tk
open Go Go.RowKit
/-- What lies in the eight slices: numbers, and bits as bytes; or bools. -/
def cP (N : Nat → List Int) (B : Nat → List Bool) (i : Nat) : List Value := if i % 2 = 0 then (N (i / 2)).map (Value.int .u64) else (nums (packB (B (i / 2)))).map (Value.int .u8)
def cD (N : Nat → List Int) (B : Nat → List Bool) (i : Nat) : List Value := if i % 2 = 0 then (N (i / 2)).map (Value.int .u64) else (B (i / 2)).map Value.bool
theorem cP_even (N : Nat → List Int) (B : Nat → List Bool) (j : Nat) : cP N B (2 * j) = (N j).map (Value.int .u64) := by unfold cP; rw [if_pos (by omega), show 2 * j / 2 = j by omega]
theorem cP_odd (N : Nat → List Int) (B : Nat → List Bool) (j : Nat) : cP N B (2 * j + 1) = (nums (packB (B j))).map (Value.int .u8) := by unfold cP; rw [if_neg (by omega), show (2 * j + 1) / 2 = j by omega]
theorem cP_num (N : Nat → List Int) (B : Nat → List Bool) (j : Nat) (x : List Int) : cP (uPd N j x) B = uPd (cP N B) (2 * j) (x.map (Value.int .u64)) := by
  funext i
  by_cases e : i = 2 * j
  · subst e; rw [uPd_same, cP_even, uPd_same]
  · rw [uPd_other _ _ e]
    unfold cP
    by_cases h2 : i % 2 = 0
    · rw [if_pos h2, if_pos h2, uPd_other _ _ (by omega)]
    · rw [if_neg h2, if_neg h2]
theorem cP_bit (N : Nat → List Int) (B : Nat → List Bool) (j : Nat) (x : List Bool) : cP N (uPd B j x) = uPd (cP N B) (2 * j + 1) ((nums (packB x)).map (Value.int .u8)) := by
  funext i
  by_cases e : i = 2 * j + 1
  · subst e; rw [uPd_same, cP_odd, uPd_same]
  · rw [uPd_other _ _ e]
    unfold cP
    by_cases h2 : i % 2 = 0
    · rw [if_pos h2, if_pos h2]
    · rw [if_neg h2, if_neg h2, uPd_other _ _ (by omega)]
theorem cD_even (N : Nat → List Int) (B : Nat → List Bool) (j : Nat) : cD N B (2 * j) = (N j).map (Value.int .u64) := by unfold cD; rw [if_pos (by omega), show 2 * j / 2 = j by omega]
theorem cD_odd (N : Nat → List Int) (B : Nat → List Bool) (j : Nat) : cD N B (2 * j + 1) = (B j).map Value.bool := by unfold cD; rw [if_neg (by omega), show (2 * j + 1) / 2 = j by omega]
theorem cD_num (N : Nat → List Int) (B : Nat → List Bool) (j : Nat) (x : List Int) : cD (uPd N j x) B = uPd (cD N B) (2 * j) (x.map (Value.int .u64)) := by
  funext i
  by_cases e : i = 2 * j
  · subst e; rw [uPd_same, cD_even, uPd_same]
  · rw [uPd_other _ _ e]
    unfold cD
    by_cases h2 : i % 2 = 0
    · rw [if_pos h2, if_pos h2, uPd_other _ _ (by omega)]
    · rw [if_neg h2, if_neg h2]
theorem cD_bit (N : Nat → List Int) (B : Nat → List Bool) (j : Nat) (x : List Bool) : cD N (uPd B j x) = uPd (cD N B) (2 * j + 1) (x.map Value.bool) := by
  funext i
  by_cases e : i = 2 * j + 1
  · subst e; rw [uPd_same, cD_odd, uPd_same]
  · rw [uPd_other _ _ e]
    unfold cD
    by_cases h2 : i % 2 = 0
    · rw [if_pos h2, if_pos h2]
    · rw [if_neg h2, if_neg h2, uPd_other _ _ (by omega)]
end Go.Tk
namespace Go.Proofs.Ytgajpekolamjbaa
open Go.RowKit Go.Tk
def eP (i : Nat) : TypeId := if i % 2 = 0 then 61 else 5
def eD (i : Nat) : TypeId := if i % 2 = 0 then 61 else 4
theorem eP_even (j : Nat) : eP (2 * j) = 61 := by unfold eP; rw [if_pos (by omega)]
theorem eP_odd (j : Nat) : eP (2 * j + 1) = 5 := by unfold eP; rw [if_neg (by omega)]
theorem eD_even (j : Nat) : eD (2 * j) = 61 := by unfold eD; rw [if_pos (by omega)]
theorem eD_odd (j : Nat) : eD (2 * j + 1) = 4 := by unfold eD; rw [if_neg (by omega)]
/-- The program's rows; the document's. -/
abbrev RowsP (n0 : Nat) (w : World) (b : Nat) (vs : Nat → Value) (N : Nat → List Int) (B : Nat → List Bool) : Prop := R8 n0 84 eP w b vs (cP N B)
abbrev RowsD (n0 : Nat) (w : World) (b : Nat) (vs : Nat → Value) (N : Nat → List Int) (B : Nat → List Bool) : Prop := R8 n0 96 eD w b vs (cD N B)
section
variable {n0 : Nat} {w : World} {b : Nat} {vs : Nat → Value} {N : Nat → List Int} {B : Nat → List Bool}
theorem RowsP.num (h : RowsP n0 w b vs N B) {j : Nat} (hj : j < 4) : Ow .u64 61 n0 w (vs (2 * j)) (N j) := by
  have := h.own (2 * j) (by omega)
  rw [eP_even, cP_even, List.length_map] at this
  exact this
theorem RowsP.bit (h : RowsP n0 w b vs N B) {j : Nat} (hj : j < 4) : Ow .u8 5 n0 w (vs (2 * j + 1)) (nums (packB (B j))) := by
  have := h.own (2 * j + 1) (by omega)
  rw [eP_odd, cP_odd, List.length_map] at this
  exact this
theorem RowsP.appN (h : RowsP n0 w b vs N B) {j : Nat} (hj : j < 4) {w1 : World} {v' : Value} {x : List Int} (ho : Ow .u64 61 n0 w1 v' x) (hg : w.grownBy w1 (vs (2 * j)).ownBlock) (hs : OwnStep w (vs (2 * j)) v') :
    RowsP n0 (w1.setCell ⟨b, 2 * j, none⟩ v') b (uPd vs (2 * j) v') (uPd N j x) B := by
  have := h.app (i := 2 * j) (by omega) (v' := v') (cs := x.map (Value.int .u64)) (by rw [eP_even, List.length_map]; exact ho) hg hs
  rw [← cP_num] at this
  exact this
theorem RowsP.appB (h : RowsP n0 w b vs N B) {j : Nat} (hj : j < 4) {w1 : World} {v' : Value} {x : List Bool} (ho : Ow .u8 5 n0 w1 v' (nums (packB x))) (hg : w.grownBy w1 (vs (2 * j + 1)).ownBlock) (hs : OwnStep w (vs (2 * j + 1)) v') :
    RowsP n0 (w1.setCell ⟨b, 2 * j + 1, none⟩ v') b (uPd vs (2 * j + 1) v') N (uPd B j x) := by
  have := h.app (i := 2 * j + 1) (by omega) (v' := v') (cs := (nums (packB x)).map (Value.int .u8)) (by rw [eP_odd, List.length_map]; exact ho) hg hs
  rw [← cP_bit] at this
  exact this
end
set_option maxRecDepth 100000 in
set_option maxHeartbeats 1000000 in
theorem rput_calls (w : World) (n0 b : Nat) (vs : Nat → Value) (N : Nat → List Int) (B : Nat → List Bool) (h : RowsP n0 w b vs N B) (j : Nat) (hj : j < 4) (hl : (B j).length = (N j).length) (hm : (N j).length ≤ 2000000) (p : Nat) (hp : p = 2 * j) (x : Int) (h0 : 0 ≤ x) (h1 : x ≤ 4194304) :
    Calls Try.prog 73 #[.pointer (some ⟨b, p, none⟩), .int .i64 x] w fun e w' => e = .returned (.tuple #[]) ∧ (∃ vs', RowsP n0 w' b vs' (uPd N j (N j ++ [x])) (uPd B j (B j ++ [false])) ∧ OffK b w w' vs vs') ∧ Below n0 w w' := by
  have hn0 : n0 ≤ w.heap.size := by have := h.lt; have := h.new; omega
  have ho := h.num hj
  obtain ⟨na, nc, hv, hs, _⟩ := ho.sl
  have hb := h.bit hj
  obtain ⟨ba, bc, hv2, hs2, _⟩ := hb.sl
  have hbl : (nums (packB (B j))).length = ((N j).length + 7) / 8 := by rw [nums_len, pack_len, hl]
  rw [hbl] at hv2
  have c0 : w.cell? ⟨b, p, none⟩ = some (.slice na (N j).length nc) := by rw [hp, h.cell (by omega), hv]
  have c1 : w.cell? ⟨b, p + 1, none⟩ = some (.slice ba (((N j).length + 7) / 8) bc) := by rw [hp, h.cell (by omega), hv2]
  have hput := pack_put (B j)
  rw [hl] at hput
  rw [hv] at ho
  rw [hv2] at hb
  obtain ⟨m, hmm⟩ : ∃ m, m = (N j).length := ⟨_, rfl⟩
  rw [← hmm] at hm c0 c1 hput hbl ho hb hv hv2
  have HH := Lib.hid h
  have HO := Lib.hid ho
  have HB := Lib.hid hb
  have HV := Lib.hid hv
  have HV2 := Lib.hid hv2
  have HPUT := Lib.hid hput
  have HBL := Lib.hid hbl
  have HM := Lib.hid hmm
  have HP := Lib.hid hp
  have hxw : IntKind.u64.wrap x = x := by rw [IntKind.wrap_u64]; omega
  clear h ho hb hs hs2 hv hv2 hl hput hbl hmm hp
  -- the second half
  have fin : ∀ (w2 : World) (vs2 : Nat → Value) (B2 : Nat → List Bool), RowsP n0 w2 b vs2 N B2 → OffK b w w2 vs vs2 → vs2 (2 * j) = .slice na m nc → Below n0 w w2 → B2 = uPd B j (B j ++ [false]) →
      ∀ w3 v3, Ow .u64 61 n0 w3 v3 (N j ++ [x]) → (w2.alloc (.cells #[.int .u64 x] 61)).grownBy w3 (Value.slice na m nc).ownBlock → OwnStep (w2.alloc (.cells #[.int .u64 x] 61)) (.slice na m nc) v3 →
      (∃ u, w3.cell? ⟨b, p, none⟩ = some u) ∧ w3.frozen? ⟨b, p, none⟩ = false ∧ (∃ vs', RowsP n0 (w3.setCell ⟨b, p, none⟩ v3) b vs' (uPd N j (N j ++ [x])) (uPd B j (B j ++ [false])) ∧ OffK b w (w3.setCell ⟨b, p, none⟩ v3) vs vs') ∧ Below n0 w (w3.setCell ⟨b, p, none⟩ v3) := by
    intro w2 vs2 B2 h2 hof2 hv2 hb2 hB2 w3 v3 ow3 hg3 st3
    have ha := h2.alloc (.cells #[.int .u64 x] 61)
    rw [← hv2] at hg3 st3
    have hne : b ≠ b ∨ True := .inr trivial
    have hblk : w3.heap[b]? = (w2.alloc (.cells #[.int .u64 x] 61)).heap[b]? := hg3.block b ha.lt (fun e => ha.ne (2 * j) (by omega) e.symm)
    have hc : w3.cell? ⟨b, p, none⟩ = some (vs2 (2 * j)) := by rw [HP.out]; exact (World.cell?_of_block hblk).trans (ha.cell (by omega))
    have hf : w3.frozen? ⟨b, p, none⟩ = false := frozen_of_row w3 b p _ _ (hblk.trans ha.blk)
    have hz := hb2.size
    have hbn := HH.out.new
    refine ⟨⟨_, hc⟩, hf, ⟨uPd vs2 (2 * j) v3, ?_, ?_⟩, ?_⟩
    · have := RowsP.appN ha hj ow3 hg3 st3
      rw [HP.out, ← hB2]; exact this
    · rw [HP.out]; exact (hof2.trans (OffK.below ((Below.refl _ w2).alloc (Nat.le_refl _) _) vs2)).trans (OffK.app ha (by omega) hg3 st3)
    · exact ((hb2.alloc (by omega) _).grown hg3 (by simp; omega) (fun k hk => (ha.own_lt (i := 2 * j) (by omega) k hk).1)).setCell hbn _
  have FIN := Lib.hid fin
  clear fin
  by_cases h8 : m % 8 = 0
  · have e8 : ((m : Int) % 8 == 0) = true := by simp; omega
    have hnx : nums (packB (B j ++ [false])) = nums (packB (B j)) ++ [0] := by rw [HPUT.out, if_pos h8, nums_append]; rfl
    have hmid : ∀ w1 v1, Ow .u8 5 n0 w1 v1 (nums (packB (B j)) ++ [0]) → (w.alloc (.cells #[.int .u8 0] 5)).grownBy w1 (Value.slice ba ((m + 7) / 8) bc).ownBlock → OwnStep (w.alloc (.cells #[.int .u8 0] 5)) (.slice ba ((m + 7) / 8) bc) v1 →
        (∃ u, w1.cell? ⟨b, p + 1, none⟩ = some u) ∧ w1.frozen? ⟨b, p + 1, none⟩ = false ∧ (∃ vs2, RowsP n0 (w1.setCell ⟨b, p + 1, none⟩ v1) b vs2 N (uPd B j (B j ++ [false])) ∧ OffK b w (w1.setCell ⟨b, p + 1, none⟩ v1) vs vs2 ∧ vs2 (2 * j) = .slice na m nc) ∧ Below n0 w (w1.setCell ⟨b, p + 1, none⟩ v1) := by
      intro w1 v1 ow1 hg1 st1
      have ha := HH.out.alloc (.cells #[.int .u8 0] 5)
      rw [← HV2.out] at hg1 st1
      have hblk : w1.heap[b]? = (w.alloc (.cells #[.int .u8 0] 5)).heap[b]? := hg1.block b ha.lt (fun e => ha.ne (2 * j + 1) (by omega) e.symm)
      have hc : w1.cell? ⟨b, p + 1, none⟩ = some (vs (2 * j + 1)) := by rw [HP.out]; exact (World.cell?_of_block hblk).trans (ha.cell (by omega))
      have hf : w1.frozen? ⟨b, p + 1, none⟩ = false := frozen_of_row w1 b (p + 1) _ _ (hblk.trans ha.blk)
      refine ⟨⟨_, hc⟩, hf, ⟨uPd vs (2 * j + 1) v1, ?_, ?_, ?_⟩, ?_⟩
      · have := RowsP.appB ha hj (x := B j ++ [false]) (by rw [hnx]; exact ow1) hg1 st1
        rw [HP.out]; exact this
      · rw [HP.out]; exact (OffK.below ((Below.refl _ w).alloc (Nat.le_refl _) _) vs).trans (OffK.app ha (by omega) hg1 st1)
      · rw [uPd_other _ _ (by omega), HV.out]
      · exact (((Below.refl n0 w).alloc hn0 _).grown hg1 (by simp; omega) (fun k hk => (ha.own_lt (i := 2 * j + 1) (by omega) k hk).1)).setCell HH.out.new _
    have HMID := Lib.hid hmid
    clear h8 hnx hmid
    go_enter Try.func73, Try.ntmps73
    go_upto_region 2 with (at_builtin; (refine wpList_appJ rfl (.tmp 15) (.tmp 16) _ rfl .u8 n0 5 _ 1 Try.underlying25 Try.infoU8 rfl _ _ rfl (HB.out.alloc _) _ 1 1 _ rfl (SlI.one _ _ _ _) (by simp) (by have := HBL.out; omega) (by have := HBL.out; omega) (by simp; omega) ?_; intro v1 w1 ow1 hg1 st1; obtain ⟨⟨u1, hc1⟩, hf1, hr1, hb1⟩ := HMID.out w1 v1 ow1 hg1 st1; obtain ⟨a1, k1, hv1, _, _⟩ := ow1.sl; obtain ⟨l1, hl1⟩ : ∃ l1, l1 = (nums (packB (B j)) ++ [0]).length := ⟨_, rfl⟩; rw [← hl1] at hv1; subst hv1; clear hl1; (have HR1 := Lib.hid hr1); (have HB1 := Lib.hid hb1); clear ow1 hg1 st1 hr1 hb1))
    obtain ⟨vs2, hr2, hof2, hv2⟩ := HR1.out
    generalize hw2 : w1.setCell ⟨b, p + 1, none⟩ _ = w2
    rw [hw2] at hr2 hof2 HB1
    have hz2 := HB1.out.size
    have cc0 : w2.cell? ⟨b, p, none⟩ = some (.slice na m nc) := by rw [HP.out, hr2.cell (by omega), hv2]
    have ho2 := RowsP.num hr2 hj
    rw [hv2] at ho2
    have HO2 := Lib.hid ho2
    have FIN2 := Lib.hid (FIN.out w2 vs2 _ hr2 hof2 hv2 HB1.out rfl)
    clear hw2 hr2 hof2 hv2 HR1 c0 c1 hc1 hf1 ho2
    go_wp2_with (at_builtin; (refine wpList_appJ rfl (.tmp 24) (.tmp 27) _ rfl .u64 n0 61 _ 8 Try.underlying81 Try.infoU64 rfl _ _ rfl (HO2.out.alloc _) _ 1 1 _ rfl (SlI.one _ _ _ _) (by simp) (by have := HM.out; omega) (by have := HM.out; omega) (by simp; omega) ?_; intro v3 w3 ow3 hg3 st3; obtain ⟨⟨u3, hc3⟩, hf3, hr3, hb3⟩ := FIN2.out w3 v3 ow3 hg3 st3; obtain ⟨a3, k3, hv3, _, _⟩ := ow3.sl; obtain ⟨l3, hl3⟩ : ∃ l3, l3 = (N j ++ [x]).length := ⟨_, rfl⟩; rw [← hl3] at hv3; subst hv3; clear hl3; (have HR3 := Lib.hid hr3); (have HB3 := Lib.hid hb3); clear ow3 hg3 st3 hr3 hb3))
    go_end0
    exact ⟨rfl, HR3.out, HB3.out⟩
  · have e8 : ((m : Int) % 8 == 0) = false := by rw [beq_eq_false_iff_ne]; omega
    have hnx : packB (B j ++ [false]) = packB (B j) := by rw [HPUT.out, if_neg h8]
    have hr2 : RowsP n0 w b vs N (uPd B j (B j ++ [false])) := by
      have : cP N (uPd B j (B j ++ [false])) = cP N B := by
        rw [cP_bit, hnx]
        funext i
        by_cases e : i = 2 * j + 1
        · subst e; rw [uPd_same, cP_odd]
        · rw [uPd_other _ _ e]
      show R8 n0 _ _ w b vs (cP N (uPd B j (B j ++ [false])))
      rw [this]; exact HH.out
    have FIN2 := Lib.hid (FIN.out w vs _ hr2 (OffK.refl _ _ _) HV.out (Below.refl _ _) rfl)
    clear h8 hnx hr2
    go_enter Try.func73, Try.ntmps73
    go_wp2_with (at_builtin; (refine wpList_appJ rfl (.tmp 24) (.tmp 27) _ rfl .u64 n0 61 _ 8 Try.underlying81 Try.infoU64 rfl _ _ rfl (HO.out.alloc _) _ 1 1 _ rfl (SlI.one _ _ _ _) (by simp) (by have := HM.out; omega) (by have := HM.out; omega) (by simp; omega) ?_; intro v3 w3 ow3 hg3 st3; obtain ⟨⟨u3, hc3⟩, hf3, hr3, hb3⟩ := FIN2.out w3 v3 ow3 hg3 st3; obtain ⟨a3, k3, hv3, _, _⟩ := ow3.sl; obtain ⟨l3, hl3⟩ : ∃ l3, l3 = (N j ++ [x]).length := ⟨_, rfl⟩; rw [← hl3] at hv3; subst hv3; clear hl3; (have HR3 := Lib.hid hr3); (have HB3 := Lib.hid hb3); clear ow3 hg3 st3 hr3 hb3))
    go_end0
    exact ⟨rfl, HR3.out, HB3.out⟩
theorem uPd_self {α : Type} (f : Nat → α) (i : Nat) : uPd f i (f i) = f := by
  funext k
  by_cases e : k = i
  · subst e; rw [uPd_same]
  · rw [uPd_other _ _ e]
theorem clB_nil : clB [] = [] := rfl
theorem or_and18 : ∀ y : Fin 256, ∀ v : Fin 8, bits .or .u8 (y.val : Int) (2 ^ v.val) = ((y.val ||| 2 ^ v.val : Nat) : Int) := by decide +kernel
theorem nums_set18 (l : List UInt8) (i : Nat) (x : UInt8) : (nums l).set i (x.toNat : Int) = nums (l.set i x) := by simp [nums, List.map_set]
theorem pow7b {k : Nat} (h : k < 8) : 2 ^ k ≤ 128 := by
  have := Nat.pow_le_pow_right (show 0 < 2 by decide) (show k ≤ 7 by omega)
  simpa using this
set_option maxRecDepth 100000 in
set_option maxHeartbeats 1000000 in
theorem tclose_calls (w : World) (n0 b : Nat) (vs : Nat → Value) (N : Nat → List Int) (B : Nat → List Bool) (h : RowsP n0 w b vs N B) (j : Nat) (hj : j < 4) (hl : (B j).length = (N j).length) (hm : (N j).length ≤ 2000000) (p : Nat) (hp : p = 2 * j) :
    Calls Try.prog 72 #[.pointer (some ⟨b, p, none⟩)] w fun e w' => e = .returned (.tuple #[]) ∧ RowsP n0 w' b vs N (uPd B j (clB (B j))) ∧ OffK b w w' vs vs ∧ Below n0 w w' := by
  have ho := h.num hj
  obtain ⟨na, nc, hv, hs, _⟩ := ho.sl
  have c0 : w.cell? ⟨b, p, none⟩ = some (.slice na (N j).length nc) := by rw [hp, h.cell (by omega), hv]
  have c1 : w.cell? ⟨b, p + 1, none⟩ = some (vs (2 * j + 1)) := by rw [hp, h.cell (by omega)]
  obtain ⟨m, hmm⟩ : ∃ m, m = (N j).length := ⟨_, rfl⟩
  rw [← hmm] at hm c0 hl
  have HH := Lib.hid h
  have HP := Lib.hid hp
  have HL := Lib.hid hl
  clear ho hv hs hmm hp h
  by_cases h0 : m = 0
  · have hB : B j = [] := List.eq_nil_of_length_eq_zero (by rw [HL.out]; exact h0)
    have hc : uPd B j (clB (B j)) = B := by
      have : clB (B j) = B j := by rw [hB]; exact clB_nil
      rw [this, uPd_self]
    have HC := Lib.hid hc
    subst h0
    clear hB hc hl
    go_enter Try.func72, Try.ntmps72
    go_wp2
    go_end0
    exact ⟨rfl, by rw [HC.out]; exact HH.out, OffK.refl _ _ _, Below.refl _ _⟩
  · obtain ⟨i, hi⟩ : ∃ i : Nat, m = i + 1 := ⟨m - 1, by omega⟩
    subst hi
    have hpl : (packB (B j)).length = (i + 8) / 8 := by rw [pack_len, HL.out]
    have hcl : (cP N B (2 * j + 1)).length = (i + 8) / 8 := by rw [cP_odd, List.length_map, nums_len, hpl]
    obtain ⟨g, gc, hv, hle, hmx, hcell, hfz, hset, hng⟩ := HH.out.at (i := 2 * j + 1) (by omega) (k := i / 8) (by rw [hcl]; omega)
    rw [hcl] at hv hle
    rw [hv] at c1
    have hcl2 := pack_cl (l := B j) (by rw [HL.out]; omega)
    rw [HL.out, Nat.add_sub_cancel] at hcl2
    obtain ⟨y, hy⟩ : ∃ y, y = ((packB (B j)).getD (i / 8) 0).toNat := ⟨_, rfl⟩
    rw [← hy] at hcl2
    have hy2 : y < 256 := by rw [hy]; exact UInt8.toNat_lt _
    have hcy : w.cell? ⟨g, i / 8, none⟩ = some (.int .u8 (y : Nat)) := by
      rw [hcell, cP_odd, hy]
      have hlt : i / 8 < (packB (B j)).length := by rw [hpl]; omega
      simp [nums, hlt]
    have hor := or_and18 ⟨y, hy2⟩ ⟨i % 8, by omega⟩
    have hob := or_byte y (i % 8) hy2 (by omega)
    simp only at hor
    obtain ⟨z, hz⟩ : ∃ z, z = UInt8.ofNat (y ||| 2 ^ (i % 8)) := ⟨_, rfl⟩
    rw [← hz] at hob hcl2
    rw [← hob] at hor
    have hzb : z.toNat < 256 := UInt8.toNat_lt z
    have hfin : ∀ k, RowsP n0 ((w.drewN k).setCell ⟨g, i / 8, none⟩ (.int .u8 (z.toNat : Nat))) b vs N (uPd B j (clB (B j))) := fun k => by
      have h1 := (HH.out.drewN k).at (i := 2 * j + 1) (by omega) (k := i / 8) (by rw [hcl]; omega)
      obtain ⟨g', gc', hv', _, _, _, _, hset', _⟩ := h1
      rw [hv] at hv'
      have hgg : g' = g := by injection hv' with e; injection e with e; injection e with e; exact e.symm
      subst hgg
      have := hset' (.int .u8 (z.toNat : Nat))
      have e : (cP N B (2 * j + 1)).set (i / 8) (.int .u8 (z.toNat : Nat)) = (nums (packB (clB (B j)))).map (Value.int .u8) := by
        rw [cP_odd, hcl2, ← nums_set18, List.map_set]
      rw [e, ← cP_bit] at this
      exact this
    obtain ⟨q, hq⟩ : ∃ q, q = z.toNat := ⟨_, rfl⟩
    rw [← hq] at hor hzb hfin
    obtain ⟨l8, hl8⟩ : ∃ l8, l8 = (i + 8) / 8 := ⟨_, rfl⟩
    rw [← hl8] at hle c1
    have h8 : i / 8 < l8 := by omega
    have HFIN := Lib.hid hfin
    have HNG := Lib.hid hng
    have hoff : ∀ k x, OffK b w ((w.drewN k).setCell ⟨g, i / 8, none⟩ x) vs vs := fun k x => (OffK.below (below_drewN (Below.refl _ w) k) vs).trans (OffK.at (i := 2 * j + 1) (by omega) hv x)
    have HOFF := Lib.hid hoff
    clear hoff
    clear hcell hset hcl hcl2 hpl hob hz hy hq hfin hv hng hl8 h0 hl
    have hi7 : IntKind.i64.wrap (i : Int) = (i : Int) := by rw [IntKind.wrap_i64]; omega
    have hi6 : ((i + 1 : Nat) : Int) - 1 = (i : Int) := by omega
    have hi0 : decide ((0 : Int) ≤ (i : Int)) = true := decide_eq_true (by omega)
    have htm : ((i : Int) % 8).toNat = i % 8 := by omega
    have hp7 : 2 ^ (i % 8) ≤ 128 := pow7b (by omega)
    have hpz : ((2 : Int) ^ (i % 8)) = ((2 ^ (i % 8) : Nat) : Int) := by rw [Int.natCast_pow]; rfl
    have hp0 : 1 ≤ 2 ^ (i % 8) := Nat.one_le_two_pow
    have hw5 : IntKind.u8.wrap ((2 : Int) ^ (i % 8)) = (2 : Int) ^ (i % 8) := by rw [hpz, IntKind.wrap_u8]; omega
    clear hpz hp7 hp0
    go_enter Try.func72, Try.ntmps72
    go_upto_region 2 with fail
    refine wp_region_quiet_tail (fun w' => ∃ n, w' = World.drewN _ n) 13 (by kernel_rfl) (by kernel_rfl) ⟨1, rfl⟩ ?_
    simp only [List.take_succ_cons, List.take_zero, List.drop_succ_cons, List.drop_zero]
    repeat (go_big_quiet_step (fail))
    refine wpQuiet_nil ?_
    rintro _ ⟨n1, rfl⟩
    go_wp2_with fail
    go_end0
    exact ⟨rfl, HFIN.out _, HOFF.out _ _, (below_drewN (Below.refl _ _) _).setCell (p := ⟨g, i / 8, none⟩) HNG.out _⟩
end Go.Proofs.Ytgajpekolamjbaa
/- rows: the levels of quads that rise. -/
namespace Go.Tk
open Go Go.RowKit
/-- Levels of which some are closed; in which some have a number more. -/
def clF (L : List Qd) (i k j : Nat) (m : Nat) : List Bool := if k < m ∧ m < j then clB (levB L m i) else levB L m i
def puN (L : List Qd) (i k j : Nat) (m : Nat) : List Int := if k ≤ m ∧ m < j then levN L m i ++ [(L.getD i default).at m] else levN L m i
def puB (L : List Qd) (i k j : Nat) (m : Nat) : List Bool := if k ≤ m ∧ m < j then clF L i k 4 m ++ [false] else clF L i k 4 m
theorem clF_at (L : List Qd) (i k j : Nat) : clF L i k j j = levB L j i := by unfold clF; rw [if_neg (by omega)]
theorem clF_step (L : List Qd) (i k j : Nat) (h : k < j) : uPd (clF L i k j) j (clB (levB L j i)) = clF L i k (j + 1) := by
  funext m
  by_cases e : m = j
  · subst e; rw [uPd_same]; unfold clF; rw [if_pos (by omega)]
  · rw [uPd_other _ _ e]
    unfold clF
    by_cases h2 : k < m ∧ m < j
    · rw [if_pos h2, if_pos (by omega)]
    · rw [if_neg h2, if_neg (by omega)]
theorem clF_zero (L : List Qd) (i k : Nat) : clF L i k (k + 1) = fun m => levB L m i := by funext m; unfold clF; rw [if_neg (by omega)]
theorem clF_len (L : List Qd) (i k j m : Nat) : (clF L i k j m).length = (levN L m i).length := by
  unfold clF; split
  · rw [clB_len, levB_len]
  · rw [levB_len]
theorem puN_at (L : List Qd) (i k j : Nat) : puN L i k j j = levN L j i := by unfold puN; rw [if_neg (by omega)]
theorem puB_at (L : List Qd) (i k j : Nat) : puB L i k j j = clF L i k 4 j := by unfold puB; rw [if_neg (by omega)]
theorem puN_step (L : List Qd) (i k j : Nat) (h : k ≤ j) : uPd (puN L i k j) j (levN L j i ++ [(L.getD i default).at j]) = puN L i k (j + 1) := by
  funext m
  by_cases e : m = j
  · subst e; rw [uPd_same]; unfold puN; rw [if_pos (by omega)]
  · rw [uPd_other _ _ e]
    unfold puN
    by_cases h2 : k ≤ m ∧ m < j
    · rw [if_pos h2, if_pos (by omega)]
    · rw [if_neg h2, if_neg (by omega)]
theorem puB_step (L : List Qd) (i k j : Nat) (h : k ≤ j) : uPd (puB L i k j) j (clF L i k 4 j ++ [false]) = puB L i k (j + 1) := by
  funext m
  by_cases e : m = j
  · subst e; rw [uPd_same]; unfold puB; rw [if_pos (by omega)]
  · rw [uPd_other _ _ e]
    unfold puB
    by_cases h2 : k ≤ m ∧ m < j
    · rw [if_pos h2, if_pos (by omega)]
    · rw [if_neg h2, if_neg (by omega)]
theorem puN_zero (L : List Qd) (i k : Nat) : puN L i k k = fun m => levN L m i := by funext m; unfold puN; rw [if_neg (by omega)]
theorem puB_zero (L : List Qd) (i k : Nat) : puB L i k k = clF L i k 4 := by funext m; unfold puB; rw [if_neg (by omega)]
theorem puN_end (L : List Qd) (i m : Nat) (h : m < 4) : levN L m (i + 1) = puN L i (fK L i) 4 m := by
  simp only [levN]; unfold puN
  by_cases h2 : fK L i ≤ m
  · rw [if_pos h2, if_pos (by omega)]
  · rw [if_neg h2, if_neg (by omega)]
theorem puB_end (L : List Qd) (i m : Nat) (h : m < 4) : levB L m (i + 1) = puB L i (fK L i) 4 m := by
  simp only [levB]; unfold puB clF
  by_cases h1 : fK L i < m
  · rw [if_pos h1, if_pos (by omega), if_pos (by omega)]
  · by_cases h2 : fK L i = m
    · rw [if_neg h1, if_pos h2, if_pos (by omega), if_neg (by omega)]
    · rw [if_neg h1, if_neg h2, if_neg (by omega), if_neg (by omega)]
/-- Which entries of the levels are the last ones, at the end. -/
def endB (L : List Qd) (j : Nat) : List Bool := if j = 0 then levB L 0 L.length else lastB L j
theorem endB_is (L : List Qd) (m : Nat) (h : m < 4) : endB L m = clF L L.length 0 4 m := by
  unfold endB lastB clF
  by_cases h0 : m = 0
  · subst h0; rw [if_pos rfl, if_neg (by omega)]
  · rw [if_neg h0, if_pos (by omega)]
theorem R8.mono {n0 n1 : Nat} {T : TypeId} {E : Nat → TypeId} {w : World} {b : Nat} {vs : Nat → Value} {C : Nat → List Value} (h : R8 n0 T E w b vs C) (hn : n1 ≤ n0) : R8 n1 T E w b vs C :=
  ⟨h.blk, Nat.le_trans hn h.new, fun i hi => ownsRow_mono (h.own i hi) hn, h.ap, h.ne⟩
theorem Kept.setRow (w : World) (g : Nat) (cs : Array Value) : Kept (fun k => k = g) w (w.setRow g cs) := ⟨rfl, rfl, rfl, by simp, fun k _ h => setRow_other w g k cs h⟩
theorem drewN2b (X : World) (a b : Nat) : (X.drewN a).drewN b = X.drewN (a + b) := by simp [World.drewN, Nat.add_assoc]
theorem owns_slice {w : World} {base : Nat} {e : TypeId} {v : Value} {n : Nat} {xs : List Value} (h : w.ownsRow base e 1 v n xs) : v.oneCell' = true := by
  rcases h.2 with ⟨rfl, _⟩ | ⟨g, cap, cur, rfl, _⟩ <;> rfl
theorem R8.ones {n0 : Nat} {T : TypeId} {E : Nat → TypeId} {w : World} {b : Nat} {vs : Nat → Value} {C : Nat → List Value} (h : R8 n0 T E w b vs C) : (#[vs 0, vs 1, vs 2, vs 3, vs 4, vs 5, vs 6, vs 7] : Array Value).all (·.oneCell') = true := by
  have := fun i (hi : i < 8) => owns_slice (h.own i hi)
  simp [this 0 (by omega), this 1 (by omega), this 2 (by omega), this 3 (by omega), this 4 (by omega), this 5 (by omega), this 6 (by omega), this 7 (by omega)]
/-- Eight slices, none of them there. -/
def nil8 : Array Value := #[.slice none 0 0, .slice none 0 0, .slice none 0 0, .slice none 0 0, .slice none 0 0, .slice none 0 0, .slice none 0 0, .slice none 0 0]
theorem R8.start {n0 : Nat} {T : TypeId} {E : Nat → TypeId} {w : World} {b : Nat} (h : w.heap[b]? = some (.cells nil8 T (0, 0))) (hb : n0 ≤ b) {C : Nat → List Value} (hc : ∀ i, i < 8 → C i = []) : R8 n0 T E w b (fun _ => .slice none 0 0) C :=
  ⟨h, hb, fun i hi => by rw [hc i hi]; exact World.ownsRow_nil w n0 (E i) 1, fun i j _ _ _ => Apart.nil 0 0 _, fun i _ e => by simp [Value.ownBlock] at e⟩
end Go.Tk
namespace Go.Proofs.Ytgajpekolamjbaa
open Go.RowKit Go.Tk
theorem Try.size8 : (Try.prog.info? 84).map (·.size) = some 8 := by kernel_rfl
theorem RowsP.to {n0 : Nat} {w : World} {b : Nat} {vs : Nat → Value} {N N' : Nat → List Int} {B B' : Nat → List Bool} (h : RowsP n0 w b vs N B) (h1 : ∀ m, m < 4 → N' m = N m) (h2 : ∀ m, m < 4 → B' m = B m) : RowsP n0 w b vs N' B' :=
  R8.congr h fun i hi => by unfold cP; rw [h1 _ (by omega), h2 _ (by omega)]
set_option maxRecDepth 100000 in
set_option maxHeartbeats 2000000 in
theorem trows_calls (w : World) (a : Option Addr) (n c : Nat) (L : List Qd) (h : SlQ w a n c L) (hR : Right L) :
    Calls Try.prog 36 #[.slice a n c] w fun e w' => ∃ vs : Nat → Value, e = .returned (.agg #[vs 0, vs 1, vs 2, vs 3, vs 4, vs 5, vs 6, vs 7]) ∧ (∃ b, RowsP w.heap.size w' b vs (fun j => levN L j n) (endB L)) ∧ Below w.heap.size w w' := by
  have hle := h.le
  have hmx := h.max
  have hn20 : n ≤ 1048576 := by rw [← h.len]; exact hR.len
  have HS := Lib.hid h
  have HL := Lib.hid h.len
  have HR := Lib.hid hR
  have SZ := Lib.hid Try.sizeIds
  have S8 := Lib.hid Try.size8
  have lev := fun j i (hi : i ≤ n) => levN_len L j i
  have LEV := Lib.hid lev
  clear h hR lev
  go_enter Try.func36, Try.ntmps36
  go_upto_region 2 with fail
  obtain ⟨w2, hw2⟩ : ∃ w2, w2 = (w.alloc (.cells nil8 84)).alloc (.cells nil8 84) := ⟨_, rfl⟩
  have hz2 : w2.heap.size = w.heap.size + 2 := by rw [hw2]; simp
  have hb2 : Below w.heap.size w w2 := by rw [hw2]; exact ((Below.refl _ w).alloc (Nat.le_refl _) _).alloc (by simp) _
  have hres : w2.heap[w.heap.size]? = some (.cells nil8 84 (0, 0)) := by rw [hw2]; show ((w.heap.push _).push _)[w.heap.size]? = _; rw [Array.getElem?_push, if_neg (by simp), Array.getElem?_push, if_pos rfl]
  have hst : RowsP (w.heap.size + 1) w2 (w.heap.size + 1) (fun _ => .slice none 0 0) (fun j => levN L j 0) (fun j => levB L j 0) := by
    refine R8.start ?_ (Nat.le_refl _) (fun i _ => ?_)
    · rw [hw2]; show ((w.heap.push _).push _)[w.heap.size + 1]? = _; rw [Array.getElem?_push, if_pos (by simp)]
    · unfold cP; simp only [levN, levB]; split <;> rfl
  change Code.wp _ _ _ _ ((w.alloc (.cells nil8 84)).alloc (.cells nil8 84))
  rw [← hw2]
  have HB2 := Lib.hid hb2
  have HRES := Lib.hid hres
  have HST := Lib.hid hst
  clear hw2 hb2 hres hst
  go_wp2_with fail
  go_loopw [12] (fun iv wr => ∃ (i : Nat) (vs : Nat → Value), iv = .int .i64 (i : Nat) ∧ i ≤ n ∧ RowsP (w.heap.size + 1) wr (w.heap.size + 1) vs (fun j => levN L j i) (fun j => levB L j i) ∧ Below (w.heap.size + 1) w2 wr) (fun iv _ => n - (intOf iv).toNat)
  case atStart => exact ⟨0, _, rfl, Nat.zero_le _, HST.out, Below.refl _ _⟩
  case round =>
    obtain ⟨i, vs, rfl, hi, hrow, hbw⟩ := hrel
    have hzw := hbw.size
    have HROW := Lib.hid hrow
    have HB := Lib.hid hbw
    clear hrow hbw
    by_cases hlt : i < n
    · obtain ⟨b, o, rfl, hr⟩ := (HS.out.keep (HB2.out.trans (HB.out.mono (by omega : w.heap.size ≤ w.heap.size + 1)))).cell i hlt
      obtain ⟨q, hq⟩ : ∃ q, q = L.getD i default := ⟨_, rfl⟩
      rw [← hq] at hr
      have HQ := Lib.hid hq
      have HRQ := Lib.hid hr
      obtain ⟨kN, hkN⟩ : ∃ kN, kN = fK L i := ⟨_, rfl⟩
      have hk4 : kN < 4 := by rw [hkN]; exact HR.out.fK_lt (by rw [HL.out]; exact hlt)
      have HK := Lib.hid hkN
      have hokq := okQ_at (HR.out.ok i (by rw [HL.out]; exact hlt))
      rw [← hq] at hokq
      have HOK := Lib.hid hokq
      clear hq hr hkN hokq
      go_upto_region 5 with (first
        | (refine wpList_load_mid rfl 24 (.tmp 15) rfl b (o + i * 4) rfl (qcs q) _ HRQ.out Try.underlying24 rfl SZ.out ?_)
        | (refine wpList_store_new rfl 24 (.tmp 5) (.tmp 16) rfl #[.int .i64 0, .int .i64 0, .int .i64 0, .int .i64 0] (qcs q).toArray rfl rfl SZ.out rfl (qcs_one q) ?_)
        | fail)
      obtain ⟨w3, hw3⟩ : ∃ w3, w3 = wr.alloc (.cells (qcs q).toArray 24) := ⟨_, rfl⟩
      have hrow3 := HROW.out.alloc (.cells (qcs q).toArray 24)
      have hb3 := HB.out.alloc (by omega) (.cells (qcs q).toArray 24)
      have hz3 : w3.heap.size = wr.heap.size + 1 := by rw [hw3]; simp
      have hq3 : w3.rangeAt wr.heap.size 0 (qcs q) := by
        rw [hw3]
        intro j v hv
        rw [World.cell?_alloc_at _ _ _ _ rfl]
        simpa using hv
      rw [← hw3] at hrow3 hb3
      rw [← hw3]
      obtain ⟨gq, hgq⟩ : ∃ gq, gq = wr.heap.size := ⟨_, rfl⟩
      have hgo : gq ≠ w.heap.size + 1 ∧ ∀ i, i < 8 → (vs i).ownBlock ≠ some gq := by
        refine ⟨by have := HROW.out.lt; omega, fun i hi e => ?_⟩
        have := (HROW.out.own_lt hi gq e).2
        omega
      have HGO := Lib.hid hgo
      clear hgo
      rw [← hgq] at hq3 hz3 ⊢
      have HROW3 := Lib.hid hrow3
      have HB3 := Lib.hid hb3
      have HQ3 := Lib.hid hq3
      clear hw3 hrow3 hb3 hq3 hgq HROW HB HRQ
      go_upto_if 18 with fail
      go_cut [6] from 18 to 31 (fun s6 wx => s6 = .int .i64 (kN : Nat) ∧ ∃ m, wx = w3.drewN m)
      case first =>
        by_cases h0 : i = 0
        · have e0 : decide (0 < i) = false := decide_eq_false (by omega)
          have hk0 : kN = 0 := by rw [HK.out]; unfold fK; rw [if_pos h0]
          subst hk0
          clear h0
          rw [e0]
          go_wp2_with fail
          go_meet
          exact ⟨rfl, 0, rfl⟩
        · have e0 : decide (0 < i) = true := decide_eq_true (by omega)
          obtain ⟨b', o', he', hr0⟩ := ((HS.out.keep (HB2.out.trans (HB3.out.mono (by omega : w.heap.size ≤ w.heap.size + 1)))).cell (i - 1) (by omega))
          have hea : (⟨b, o, none⟩ : Addr) = ⟨b', o', none⟩ := Option.some.inj he'
          injection hea with e1 e2
          subst e1 e2
          obtain ⟨p, hp⟩ : ∃ p, p = L.getD (i - 1) default := ⟨_, rfl⟩
          rw [← hp] at hr0
          have hkk : kN = fk p q := by rw [HK.out]; unfold fK; rw [if_neg h0, ← hp, ← HQ.out]
          obtain ⟨i1, hi1⟩ : ∃ i1 : Nat, i1 = i - 1 := ⟨_, rfl⟩
          rw [← hi1] at hr0
          have hi5 : (i : Int) - 1 = (i1 : Int) := by omega
          have hi6 : i1 < n := by omega
          have hi7 : IntKind.i64.wrap (i1 : Int) = (i1 : Int) := by rw [IntKind.wrap_i64]; omega
          have HKK := Lib.hid hkk
          have HR0 := Lib.hid hr0
          clear hp hkk hr0 hi1 h0 he'
          rw [e0]
          go_wp2_with fail
          go_loopw [6] (fun kv wx => ∃ (k m : Nat), kv = .int .i64 (k : Nat) ∧ k ≤ kN ∧ wx = w3.drewN m) (fun kv _ => 5 - (intOf kv).toNat)
          case atStart => exact ⟨0, 0, rfl, Nat.zero_le _, rfl⟩
          case round =>
            obtain ⟨k, m, rfl, hk, rfl⟩ := hrel
            have hk5 : k < 4 := by omega
            have q1 := qcs_at HQ3.out k hk5
            rw [Nat.zero_add] at q1
            have p1 := qcs_at HR0.out k hk5
            by_cases hkl : k < kN
            · have heq : p.at k = q.at k := fk_eq (by rw [← HKK.out]; exact hkl)
              rw [heq] at p1
              obtain ⟨x, hx⟩ : ∃ x, x = q.at k := ⟨_, rfl⟩
              rw [← hx] at p1 q1
              clear hx heq
              go_wp2_with fail
              go_quiet (fail)
              go_wp2_with fail
              refine ⟨⟨k + 1, _, by go_num, by omega, rfl⟩, by simp [intOf]; omega⟩
            · obtain rfl : k = kN := by omega
              have hne : p.at k ≠ q.at k := by have := fk_ne (p := p) (q := q) (by rw [← HKK.out]; exact hk5); rw [← HKK.out] at this; exact this
              have e1 : (q.at k == p.at k) = false := by simp; exact fun e => hne e.symm
              obtain ⟨x, hx⟩ : ∃ x, x = q.at k := ⟨_, rfl⟩
              obtain ⟨y, hy⟩ : ∃ y, y = p.at k := ⟨_, rfl⟩
              rw [← hx] at q1 e1
              rw [← hy] at p1 e1
              clear hx hy hne
              go_wp2_with fail
              go_quiet (fail)
              go_wp2_with fail
              go_meet
              exact ⟨rfl, _, drewN2b _ _ _⟩
      case rest =>
        obtain ⟨rfl, m6, rfl⟩ := hcut
        have hrow4 := HROW3.out.drewN m6
        have hb4 : Below (w.heap.size + 1) w2 (w3.drewN m6) := below_drewN HB3.out m6
        have hq4 : (w3.drewN m6).rangeAt gq 0 (qcs q) := fun j v hv => HQ3.out j v hv
        generalize w3.drewN m6 = w4 at hrow4 hb4 hq4 ⊢
        have hz4 := hb4.size
        have hrow5 : RowsP (w.heap.size + 1) w4 (w.heap.size + 1) vs (fun j => levN L j i) (clF L i kN (kN + 1)) := by rw [clF_zero]; exact hrow4
        have HROW5 := Lib.hid hrow5
        have HB4 := Lib.hid hb4
        have HQ4 := Lib.hid hq4
        have hgq4 : gq < w4.heap.size := block_lt_of_cell (hq4 0 _ rfl)
        clear hrow4 hb4 hq4 hrow5 HROW3 HB3 HQ3
        go_wp2_with fail
        go_loopw [7] (fun jv wx => ∃ (j : Nat), jv = .int .i64 (j : Nat) ∧ kN + 1 ≤ j ∧ j ≤ 4 ∧ RowsP (w.heap.size + 1) wx (w.heap.size + 1) vs (fun j => levN L j i) (clF L i kN j) ∧ OffK (w.heap.size + 1) w4 wx vs vs ∧ Below (w.heap.size + 1) w4 wx) (fun jv _ => 4 - (intOf jv).toNat)
        case atStart => exact ⟨kN + 1, by go_num, Nat.le_refl _, by omega, HROW5.out, OffK.refl _ _ _, Below.refl _ _⟩
        case round =>
          rename World => wx
          obtain ⟨j, rfl, hj1, hj4, hrx, hkx, hbx⟩ := hrel
          have HRX := Lib.hid hrx
          have HKX := Lib.hid hkx
          have HBX := Lib.hid hbx
          clear hrx hkx hbx
          by_cases hlj : j < 4
          · have hlb : (clF L i kN j j).length = (levN L j i).length := clF_len L i kN j j
            have hln : (levN L j i).length ≤ 2000000 := by have := LEV.out j i hi; omega
            have hcc := fun p hp => tclose_calls _ _ _ _ _ _ HRX.out j hlj hlb hln p hp
            rw [clF_at, clF_step L i kN j (by omega)] at hcc
            have HCC := Lib.hid hcc
            clear hlb hln hcc
            go_wp2_with (go_at_call 72; refine (HCC.out _ (by omega)).mono ?_; rintro e wy ⟨rfl, hry, hoy, hby⟩; (have HRY := Lib.hid hry); (have HOY := Lib.hid hoy); (have HBY := Lib.hid hby); clear hry hoy hby)
            exact ⟨⟨j + 1, by go_num, by omega, by omega, HRY.out, HKX.out.trans HOY.out, HBX.out.trans HBY.out⟩, by simp [intOf]; omega⟩
          · have hrx4 := HRX.out
            have hj44 : j = 4 := by omega
            rw [hj44] at hrx4
            clear hj44
            have hq5 := HKX.out.range HQ4.out hgq4 HGO.out.1 HGO.out.2
            have hgo5 := HKX.out.2 gq hgq4 HGO.out.1 HGO.out.2
            have hz5 := HKX.out.1
            have hb5 := HB4.out.trans HBX.out
            have hrow5 : RowsP (w.heap.size + 1) wx (w.heap.size + 1) vs (puN L i kN kN) (puB L i kN kN) := by rw [puN_zero, puB_zero]; exact hrx4
            have HQ5 := Lib.hid hq5
            have HGO5 := Lib.hid hgo5.2
            have HB5 := Lib.hid hb5
            have HROW6 := Lib.hid hrow5
            have hgq5 : gq < wx.heap.size := by omega
            clear hq5 hgo5 hb5 hrow5 hrx4 HRX HKX HBX HQ4 HROW5 HB4
            generalize wx = w5 at *
            go_wp2_with fail
            go_loopw [8] (fun jv wx => ∃ (j : Nat) (vx : Nat → Value), jv = .int .i64 (j : Nat) ∧ kN ≤ j ∧ j ≤ 4 ∧ RowsP (w.heap.size + 1) wx (w.heap.size + 1) vx (puN L i kN j) (puB L i kN j) ∧ OffK (w.heap.size + 1) w5 wx vs vx ∧ Below (w.heap.size + 1) w5 wx) (fun jv _ => 4 - (intOf jv).toNat)
            case atStart => exact ⟨kN, vs, by go_num, Nat.le_refl _, by omega, HROW6.out, OffK.refl _ _ _, Below.refl _ _⟩
            case round =>
              rename World => wx
              obtain ⟨j, vx, rfl, hj1, hj4, hrx, hkx, hbx⟩ := hrel
              have HRX := Lib.hid hrx
              have HKX := Lib.hid hkx
              have HBX := Lib.hid hbx
              clear hrx hkx hbx
              by_cases hlj : j < 4
              · have qj := qcs_at (HKX.out.range HQ5.out hgq5 HGO.out.1 HGO5.out) j hlj
                rw [Nat.zero_add] at qj
                have hlb : (puB L i kN j j).length = (puN L i kN j j).length := by rw [puB_at, puN_at, clF_len]
                have hln : (puN L i kN j j).length ≤ 2000000 := by rw [puN_at]; have := LEV.out j i hi; omega
                obtain ⟨x, hx⟩ : ∃ x, x = q.at j := ⟨_, rfl⟩
                have hx0 := (HOK.out j).1
                have hx1 := (HOK.out j).2
                rw [← hx] at qj hx0 hx1
                have hcc := fun m p hp => rput_calls _ _ _ _ _ _ (HRX.out.drewN m) j hlj hlb hln p hp x hx0 hx1
                rw [puN_at, puB_at, hx, HQ.out, puN_step L i kN j hj1, puB_step L i kN j hj1, ← HQ.out, ← hx] at hcc
                have HCC := Lib.hid hcc
                clear hlb hln hcc hx
                go_upto_region 16 with fail
                refine wp_region_quiet_tail (fun w' => ∃ n, w' = World.drewN wx n) 5 (by kernel_rfl) (by kernel_rfl) ⟨1, rfl⟩ ?_
                simp only [List.take_succ_cons, List.take_zero, List.drop_succ_cons, List.drop_zero]
                repeat (go_big_quiet_step (fail))
                refine wpQuiet_nil ?_
                rintro _ ⟨n1, rfl⟩
                go_wp2_with (go_at_call 73; refine (HCC.out _ _ (by omega)).mono ?_; rintro e wy ⟨rfl, ⟨vy, hry, hoy⟩, hby⟩; (have HRY := Lib.hid hry); (have HOY := Lib.hid hoy); (have HBY := Lib.hid hby); clear hry hoy hby)
                go_roundw
                case rel => exact ⟨j + 1, vy, by go_num, by omega, by omega, HRY.out, HKX.out.trans ((OffK.below (below_drewN (Below.refl _ wx) n1) vx).trans HOY.out), (below_drewN HBX.out n1).trans HBY.out⟩
                case measure => simp [intOf]; omega
              · obtain rfl : j = 4 := by omega
                have hrow7 : RowsP (w.heap.size + 1) wx (w.heap.size + 1) vx (fun j => levN L j (i + 1)) (fun j => levB L j (i + 1)) := RowsP.to HRX.out (fun m hm => by rw [HK.out]; exact puN_end L i m hm) (fun m hm => by rw [HK.out]; exact puB_end L i m hm)
                have hb7 := HB5.out.trans HBX.out
                have HROW7 := Lib.hid hrow7
                have HB7 := Lib.hid hb7
                clear hrow7 hb7
                go_wp2_with fail
                exact ⟨⟨i + 1, vx, by go_num, by omega, HROW7.out, HB7.out⟩, by simp [intOf]; omega⟩
    · obtain rfl : i = n := by omega
      have hin : L.length = i := HL.out
      have hrow2 : RowsP (w.heap.size + 1) wr (w.heap.size + 1) vs (fun j => levN L j i) (clF L i 0 1) := by rw [clF_zero]; exact HROW.out
      have HROW2 := Lib.hid hrow2
      clear hrow2
      rename World => w5
      go_wp2_with fail
      go_loopw [9] (fun jv wx => ∃ (j : Nat), jv = .int .i64 (j : Nat) ∧ 1 ≤ j ∧ j ≤ 4 ∧ RowsP (w.heap.size + 1) wx (w.heap.size + 1) vs (fun j => levN L j i) (clF L i 0 j) ∧ Below (w.heap.size + 1) w5 wx) (fun jv _ => 4 - (intOf jv).toNat)
      case atStart => exact ⟨1, rfl, Nat.le_refl _, by omega, HROW2.out, Below.refl _ _⟩
      case round =>
        rename World => wx
        obtain ⟨j, rfl, hj1, hj4, hrx, hbx⟩ := hrel
        have HRX := Lib.hid hrx
        have HBX := Lib.hid hbx
        clear hrx hbx
        by_cases hlj : j < 4
        · have hlb : (clF L i 0 j j).length = (levN L j i).length := clF_len L i 0 j j
          have hln : (levN L j i).length ≤ 2000000 := by have := LEV.out j i hi; omega
          have hcc := fun p hp => tclose_calls _ _ _ _ _ _ HRX.out j hlj hlb hln p hp
          rw [clF_at, clF_step L i 0 j (by omega)] at hcc
          have HCC := Lib.hid hcc
          clear hlb hln hcc
          go_wp2_with (go_at_call 72; refine (HCC.out _ (by omega)).mono ?_; rintro e wy ⟨rfl, hry, hoy, hby⟩; (have HRY := Lib.hid hry); (have HBY := Lib.hid hby); clear hry hoy hby)
          exact ⟨⟨j + 1, by go_num, by omega, by omega, HRY.out, HBX.out.trans HBY.out⟩, by simp [intOf]; omega⟩
        · obtain rfl : j = 4 := by omega
          have hrow3 : RowsP (w.heap.size + 1) wx (w.heap.size + 1) vs (fun j => levN L j i) (endB L) := RowsP.to HRX.out (fun m hm => rfl) (fun m hm => by rw [endB_is L m hm, hin])
          have hblk := hrow3.blk
          have hones := hrow3.ones
          have hb8 := HB.out.trans HBX.out
          have hres8 : wx.heap[w.heap.size]? = some (.cells nil8 84 (0, 0)) := (hb8.block _ (by omega)).trans HRES.out
          have HROW3 := Lib.hid hrow3
          have HBLK := Lib.hid hblk
          have HONES := Lib.hid hones
          have HB8 := Lib.hid hb8
          have HRES8 := Lib.hid hres8
          clear hrow3 hblk hones hb8 hres8 HRX HBX HROW2 HROW HB
          go_wp2_with (first
            | (refine wpList_load_row rfl 84 (.tmp 3) rfl (w.heap.size + 1) rfl _ _ _ _ HBLK.out Try.underlying84 rfl S8.out ?_)
            | (refine wpList_store_row rfl 84 (.tmp 2) (.tmp 60) rfl w.heap.size _ rfl rfl _ _ HRES8.out S8.out rfl HONES.out ?_)
            | fail)
          refine bodyPost_ret (results_cell_row rfl _ _ w.heap.size _ _ _ _ rfl (setRow_heap wx w.heap.size _ _ _ _ HRES8.out) Try.underlying84 rfl S8.out) rfl ⟨vs, rfl, ⟨w.heap.size + 1, ?_⟩, ?_⟩
          · exact (HROW3.out.mono (by omega : w.heap.size ≤ w.heap.size + 1)).kept (Kept.setRow wx w.heap.size _) (by omega) (fun i hi g hg e => by have := (HROW3.out.own_lt hi g hg).1; omega)
          · exact below_setRow (HB2.out.trans (HB8.out.mono (by omega))) (Nat.le_refl _) _
end Go.Proofs.Ytgajpekolamjbaa
