/- What Open takes is the tree of its quads; no tree's bytes begin another's. Plain. -/
import Derived.Test.YtgajpekolamjbaaTzA
import Derived.Test.YtgajpekolamjbaaTpF
set_option linter.unusedVariables false
set_option linter.unusedSimpArgs false
namespace Go.Proofs.Ytgajpekolamjbaa
open Go Go.RowKit Go.Tk
theorem u8_all {zs : List Int} (h : ∀ x ∈ zs, 0 ≤ x ∧ x < 256) : U8 zs := fun i hi => by
  have := h zs[i] (List.getElem_mem hi)
  simpa [hi] using this
/-- A number that is read is written just so. -/
theorem ups_canon (z : List Int) (hz : ∀ x ∈ z, 0 ≤ x ∧ x < 256) (i : Nat) (hi : i ≤ z.length) (h : (upS z i 0 mxU).2.2 = 0) :
    i ≤ (upS z i 0 mxU).2.1 ∧ (upS z i 0 mxU).2.1 ≤ z.length ∧ 0 ≤ (upS z i 0 mxU).1 ∧ (upS z i 0 mxU).1 < 18446744073709551616 ∧ (z.drop i).take ((upS z i 0 mxU).2.1 - i) = vz (upS z i 0 mxU).1 := by
  have hr := ups_range z i 0 hi
  refine ⟨hr.2.1, hr.2.2, hr.1.1, hr.1.2, ?_⟩
  unfold upS at h ⊢
  rw [if_neg (by simp)] at h ⊢
  split at h
  · rename_i h1; exact absurd h h1
  rename_i h1
  split at h
  · cases h
  rename_i h2
  rw [if_neg h1, if_neg h2]
  obtain ⟨j, u, hk, hj, hv, hu, hb, ht, _⟩ := pk_vz (z.drop i) 0 0 (pk (z.drop i)).1 (pk (z.drop i)).2.1 (fun x hx => hz x (List.mem_of_mem_drop hx)) (by omega) (by omega) (by decide) (Prod.ext rfl (Prod.ext rfl (Classical.not_not.1 h1)))
  have ev : (pk (z.drop i)).1 = u := by rw [hv]; simp
  simp only
  rw [hk, ev]
  simp only [Int.toNat_natCast, Nat.zero_add]
  rw [Nat.add_sub_cancel_left]; exact ht
/-- A part of some bytes' numbers. -/
def sbN (b : List UInt8) (x y : Nat) : List Int := ((nums b).drop x).take (y - x)
theorem sb_app {b : List UInt8} {x y z : Nat} (h1 : x ≤ y) (h2 : y ≤ z) : sbN b x z = sbN b x y ++ sbN b y z := by
  unfold sbN
  rw [show z - x = (y - x) + (z - y) by omega, List.take_add, List.drop_drop, show x + (y - x) = y by omega]
theorem sb_all (b : List UInt8) : nums b = sbN b 0 b.length := by unfold sbN; rw [← nums_len b]; simp
theorem sb_one {b : List UInt8} {x : Nat} (h : x < b.length) : sbN b x (x + 1) = [((bAt b x : Nat) : Int)] := by
  unfold sbN bAt
  rw [show x + 1 - x = 1 by omega]
  have hx : x < (nums b).length := by rw [nums_len]; exact h
  rw [List.drop_eq_getElem_cons hx]
  simp [nums, h]
theorem up_sb {b : List UInt8} {k : Nat} (h : (tUp b k).2.2 = 0) : sbN b (tPl b k) (tPl b (k + 1)) = vz ((tN b k : Nat) : Int) := by
  rw [tUp_at] at h
  have hc := (ups_canon (nums b) (nums_u8 b) (tPl b k) (by rw [nums_len]; exact tPl_le b k) h).2.2.2.2
  rw [← tUp_at, tUp_nat] at hc
  exact hc
/-- Bytes that View takes, and bytes behind them. -/
theorem vw_pre {b r : List UInt8} (h1 : (vwE b).1 = 0) (h2 : (vwE (b ++ r)).1 = 0) : r = [] := by
  have spl : ∀ {c : List UInt8}, (vwE c).1 = 0 → (∀ k, k < 4 → CnOk c k) ∧ (∀ k, k < 4 → LvOk c k) ∧ tA c 4 = c.length := by
    intro c h
    unfold vwE at h
    by_cases hl : (lvE c 4).1 ≠ 0
    · rw [if_pos hl] at h; exact absurd h hl
    rw [if_neg hl] at h
    obtain ⟨_, g1, g2⟩ := lv_ok (Classical.not_not.1 hl)
    refine ⟨g1, g2, ?_⟩
    by_cases ht : tA c 4 < c.length
    · rw [if_pos ht] at h; cases h
    · have e3 := (g2 3 (by omega)).en
      rw [show 3 + 1 = 4 from rfl] at e3
      omega
  obtain ⟨c1, l1, e1⟩ := spl h1
  obtain ⟨_, _, e2⟩ := spl h2
  have hn : nums (b ++ r) = nums b ++ nums r := by simp [nums]
  have hup : ∀ k, k < 4 → tPl (b ++ r) k = tPl b k → tUp (b ++ r) k = tUp b k := by
    intro k hk hp
    have h0 := (c1 k hk).er
    have hc := h0
    rw [tUp_at] at hc
    have cc := ups_canon (nums b) (nums_u8 b) (tPl b k) (by rw [nums_len]; exact tPl_le b k) hc
    obtain ⟨q1, q2, q3, q4, q5⟩ := cc
    rw [tUp_at (b ++ r), hp, hn]
    have s1 : nums b = (nums b).take (tPl b k) ++ (vz (upS (nums b) (tPl b k) 0 mxU).1 ++ (nums b).drop (upS (nums b) (tPl b k) 0 mxU).2.1) := by
      conv => lhs; rw [← List.take_append_drop (tPl b k) (nums b)]
      congr 1
      conv => lhs; rw [← List.take_append_drop ((upS (nums b) (tPl b k) 0 mxU).2.1 - tPl b k) ((nums b).drop (tPl b k))]
      rw [q5, List.drop_drop, show tPl b k + ((upS (nums b) (tPl b k) 0 mxU).2.1 - tPl b k) = (upS (nums b) (tPl b k) 0 mxU).2.1 by omega]
    have hpl : tPl b k = ((nums b).take (tPl b k)).length := by rw [List.length_take, nums_len]; have := tPl_le b k; omega
    have hvl : (vz (upS (nums b) (tPl b k) 0 mxU).1).length = (upS (nums b) (tPl b k) 0 mxU).2.1 - tPl b k := by
      rw [← q5, List.length_take, List.length_drop]; omega
    have := ups_vz (upS (nums b) (tPl b k) 0 mxU).1 ((nums b).take (tPl b k)) ((nums b).drop (upS (nums b) (tPl b k) 0 mxU).2.1 ++ nums r) q3 q4 hpl
    rw [← List.append_assoc, ← List.append_assoc, List.append_assoc (List.take _ _), ← s1] at this
    rw [this, tUp_at b, hvl]
    refine Prod.ext rfl (Prod.ext ?_ ?_)
    · show tPl b k + ((upS (nums b) (tPl b k) 0 mxU).2.1 - tPl b k) = _
      omega
    · exact hc.symm
  have hall : ∀ k, k ≤ 4 → tPl (b ++ r) k = tPl b k := by
    intro k
    induction k with
    | zero => intro _; rfl
    | succ k ih =>
      intro hk
      show (tUp (b ++ r) k).2.1 = (tUp b k).2.1
      rw [hup k (by omega) (ih (by omega))]
  have hN : ∀ k, k < 4 → tN (b ++ r) k = tN b k := fun k hk => by unfold tN; rw [hup k hk (hall k (by omega))]
  have hA : ∀ k, k ≤ 4 → tA (b ++ r) k = tA b k := by
    intro k
    induction k with
    | zero => intro _; exact hall 4 (Nat.le_refl _)
    | succ k ih =>
      intro hk
      have h3 := ih (by omega)
      have hlt := (l1 k (by omega)).lt
      have hb : bAt (b ++ r) (tA b k) = bAt b (tA b k) := by
        unfold bAt
        rw [List.getD_eq_getElem?_getD, List.getElem?_append_left hlt, ← List.getD_eq_getElem?_getD]
      simp only [tA]
      rw [h3, hN k (by omega), hb]
      by_cases hk0 : k = 0
      · rw [if_pos hk0, if_pos hk0]
      · rw [if_neg hk0, if_neg hk0, hN (k - 1) (by omega)]
  have := hA 4 (Nat.le_refl _)
  rw [e1, e2, List.length_append] at this
  exact List.length_eq_zero_iff.1 (by omega)
section
variable {b : List UInt8} {xs ys : Nat → Nat}
theorem op_zero (h : (opT b xs ys 4).1 = 0) : ∀ k, k < 4 → (opT b xs ys k).1 = 0 ∧ (lkE b k (xs k) (ys k)).1 = 0 := by
  have key : ∀ k, k ≤ 4 → (opT b xs ys k).1 = 0 := fun k hk => Classical.byContradiction fun hn => by
    rw [op_stop (k := k) (j := 4) hn hk] at h; exact hn h
  intro k hk
  have h1 := key k (by omega)
  have h2 := key (k + 1) (by omega)
  simp only [opT] at h2
  rw [if_neg (by simp [h1])] at h2
  exact ⟨h1, h2⟩
/-- What holds of a level that Open takes. -/
structure LkOk (b : List UInt8) (k : Nat) : Prop where
  op : opErr (nums (tP b k)) (tN b k : Nat) (tW b k : Nat) = 0
  w : bw (mxN b k (tN b k) : Nat) = (tW b k : Nat)
  vc : 0 < k → ∃ d : List UInt8, tB b k = whB d (tN b k) ∧ d.length = (tN b k + 7) / 8 ∧ padB d (tN b k) = true ∧ cntB d (tN b k) = tN b (k - 1)
  last : 0 < k → 0 < tN b k → tBit b k (tN b k - 1) = true
  ok : ∀ i, i < tN b k → okN k (tM b k i : Nat) = true
  up : ∀ i, i + 1 < tN b k → (k = 0 ∨ tBit b k i = false) → tM b k i < tM b k (i + 1)
theorem ln_ok {k : Nat} : ∀ {j : Nat}, (lnS b k j).1 = 0 → ∀ i, i < j → (lnE b k i).1 = 0
  | 0, _, i, hi => by omega
  | j + 1, h, i, hi => by
    simp only [lnS] at h
    by_cases h1 : (lnS b k j).1 ≠ 0
    · rw [if_pos h1] at h; exact absurd h h1
    rw [if_neg h1] at h
    by_cases e : i = j
    · subst e; exact h
    · exact ln_ok (Classical.not_not.1 h1) i (by omega)
theorem lk_ok {k x y : Nat} (hx : lkU b k → OpenR (tB b k) x y) (hN : tN b k ≤ 1048576) (h : (lkE b k x y).1 = 0) : LkOk b k := by
  unfold lkE at h
  by_cases h1 : opErr (nums (tP b k)) (tN b k : Nat) (tW b k : Nat) ≠ 0
  · rw [if_pos h1] at h; exact absurd h h1
  rw [if_neg h1] at h
  by_cases h2 : bw (mxN b k (tN b k) : Nat) ≠ (tW b k : Nat)
  · rw [if_pos h2] at h; cases h
  rw [if_neg h2] at h
  by_cases h3 : 0 < k ∧ (lkB b k x y).1 ≠ 0
  · rw [if_pos h3] at h; exact absurd h h3.2
  rw [if_neg h3] at h
  have h1' := Classical.not_not.1 h1
  have h2' := Classical.not_not.1 h2
  have hv : 0 < k → tV b k = true ∧ y = 0 ∧ ¬ (0 < tN b k ∧ tBit b k (tN b k - 1) = false) := by
    intro h0
    have h4 : (lkB b k x y).1 = 0 := Classical.byContradiction fun hn => h3 ⟨h0, hn⟩
    unfold lkB at h4
    by_cases g1 : tV b k = false
    · rw [if_pos g1] at h4; cases h4
    rw [if_neg g1] at h4
    by_cases g2 : y ≠ 0
    · rw [if_pos g2] at h4; exact absurd (by simpa using h4) g2
    rw [if_neg g2] at h4
    by_cases g3 : 0 < tN b k ∧ tBit b k (tN b k - 1) = false
    · rw [if_pos g3] at h4; cases h4
    exact ⟨by simpa using g1, Classical.not_not.1 g2, g3⟩
  have hE := ln_ok h
  refine ⟨h1', h2', fun h0 => ?_, fun h0 hn => ?_, fun i hi => ?_, fun i hi hb => ?_⟩
  · obtain ⟨g1, rfl, _⟩ := hv h0
    have ho := hx ⟨h0, g1, h1', h2'⟩
    obtain ⟨o1, o2, o3, o4, o5⟩ := open_is ho
    unfold tV at g1
    simp only [Bool.and_eq_true, decide_eq_true_eq] at g1
    obtain ⟨⟨⟨_, _⟩, e0⟩, e4⟩ := g1
    rw [e0] at o3 o4 o5
    refine ⟨_, o5, o3, o4, ?_⟩
    rw [← wh_m (d := daB (tB b k) (tN b k)) (N := tN b k) (by omega), ← o5, e4]
  · have := (hv h0).2.2
    cases hb : tBit b k (tN b k - 1) with
    | true => rfl
    | false => exact absurd ⟨hn, hb⟩ this
  · have := hE i hi
    unfold lnE at this
    by_cases g : okN k (tM b k i : Nat) = false
    · rw [if_pos g] at this; cases this
    · simpa using g
  · have := hE (i + 1) hi
    unfold lnE at this
    by_cases g : okN k (tM b k (i + 1) : Nat) = false
    · rw [if_pos g] at this; cases this
    rw [if_neg g] at this
    by_cases g2 : 0 < i + 1 ∧ (k = 0 ∨ tBit b k (i + 1 - 1) = false) ∧ tM b k (i + 1) ≤ tM b k (i + 1 - 1)
    · rw [if_pos g2] at this; cases this
    · rw [Nat.add_sub_cancel] at g2
      refine Classical.byContradiction fun hn => g2 ⟨by omega, hb, by omega⟩
/-- A level's bits are those of its data. -/
theorem bit_data {k : Nat} {d : List UInt8} (h : tB b k = whB d (tN b k)) (hl : d.length = (tN b k + 7) / 8) {i : Nat} (hi : i < tN b k) : tBit b k i = btB d i := by
  unfold tBit
  rw [decide_eq_true hi, Bool.true_and, h]
  obtain ⟨t, ht⟩ := dat_wh d (tN b k)
  rw [ht, bt_app _ _ _ (by omega)]
/-- The quads that the bytes tell. -/
def lsB (b : List UInt8) : List Qd := lsT (tN b) (fun k i => (tM b k i : Nat)) (tBit b)
theorem lv_lvT (hC : ∀ k, k < 4 → CnOk b k) (hK : ∀ k, k < 4 → LkOk b k) : LvT (tN b) (fun k i => ((tM b k i : Nat) : Int)) (tBit b) := by
  refine ⟨fun k h0 hk => ?_, fun k h0 hk hn => (hK k hk).last h0 hn, (hC 3 (by omega)).le, fun k i hk hi => (hK k hk).ok i hi, fun k i hk hi hb => by have := (hK k hk).up i hi hb; show ((tM b k i : Nat) : Int) < ((tM b k (i + 1) : Nat) : Int); omega⟩
  obtain ⟨d, e1, e2, e3, e4⟩ := (hK k hk).vc h0
  rw [← e4]
  exact (cnt_cF d (tBit b k) (tN b k) (fun j hj => (bit_data e1 e2 hj).symm)).symm
theorem mx_range (k : Nat) : ∀ n, ((mxN b k n : Nat) : Int) = mxL ((List.range n).map fun i => ((tM b k i : Nat) : Int))
  | 0 => rfl
  | n + 1 => by
    have ih := mx_range k n
    unfold mxL at ih ⊢
    rw [List.range_succ, List.map_append, List.foldl_append, ← ih]
    simp only [mxN, List.map_cons, List.map_nil, List.foldl_cons, List.foldl_nil]
    omega
theorem numF_numT (P : List UInt8) {wd : Nat} (h : wd ≤ 23) (i : Nat) : numF P wd i = Go.Tk.numT (nums P) wd i wd := by
  apply Nat.eq_of_testBit_eq
  intro j
  rw [numF_bit P wd i h, numT_bit, bitI_nums]
set_option maxHeartbeats 1000000 in
/-- A level's bytes. -/
theorem sec_is (T : LvT (tN b) (fun k i => ((tM b k i : Nat) : Int)) (tBit b)) {k : Nat} (hk : k < 4) (hL : LvOk b k) (hK : LkOk b k) (hN : tN b k ≤ 1048576) : sbN b (tA b k) (tA b (k + 1)) = secB (lsB b) k := by
  have hlev : levN (lsB b) k (lsB b).length = (List.range (tN b k)).map fun i => ((tM b k i : Nat) : Int) := ls_levN T hk
  have hge := tE_ge b k
  have hxe := tX_ge b k
  have hlen : (levN (lsB b) k (lsB b).length).length = tN b k := by rw [hlev]; simp
  have hwd : wdL (levN (lsB b) k (lsB b).length) = (tW b k : Nat) := by unfold wdL; rw [hlev, ← mx_range, hK.w]
  rw [sb_app (y := tA b k + 1) (by omega) (by omega), sb_app (x := tA b k + 1) (y := tE b k) hge hxe, sb_one hL.lt]
  unfold secB
  simp only
  rw [hwd, hlen]
  have e2 : sbN b (tA b k + 1) (tE b k) = nums (tP b k) := by unfold sbN tP; rw [nums_cut]
  have e3 : sbN b (tE b k) (tA b (k + 1)) = nums (tB b k) := by unfold sbN tB; rw [nums_cut]
  have hP : nums (tP b k) = packOut (levN (lsB b) k (lsB b).length) (tW b k : Nat) := by
    obtain ⟨hd64, hn31, hpl, hpad⟩ := opErr_zero hK.op
    have hpl2 := hpl
    rw [nums_len] at hpl2
    have hat : ∀ q, q < tN b k → (levN (lsB b) k (lsB b).length).getD q 0 = (Go.Tk.numT (nums (tP b k)) (tW b k) q (tW b k) : Nat) := fun q hq => by
      rw [hlev]
      rw [List.getD_eq_getElem?_getD, List.getElem?_map, List.getElem?_range hq]
      simp only [Option.map_some, Option.getD_some]
      unfold tM
      rw [numF_numT _ hL.wd]
    have hok : packOk (levN (lsB b) k (lsB b).length) ((tW b k : Nat) : Int) = true := by
      unfold packOk
      rw [decide_eq_true (by omega), anyW_no (fun q hq => by
        rw [hat q (by omega)]
        exact bw_le_of (numT_lt _ _ _ _))]
      rfl
    unfold packOut
    rw [if_pos hok, Int.toNat_natCast, hlen]
    rcases Nat.eq_zero_or_pos (tW b k) with hw0 | hw0
    · have e0 : tP b k = [] := List.length_eq_zero_iff.1 (by rw [hpl2, hw0]; simp)
      have e1 : packTo (levN (lsB b) k (lsB b).length) (tW b k) ((tN b k * tW b k + 7) / 8) (tN b k) = [] := List.length_eq_zero_iff.1 (by rw [packTo_len, hw0]; simp)
      rw [e0, e1]; rfl
    · have hu8 : U8 (nums (tP b k)) := u8_all (nums_u8 _)
      have := pack_num hu8 hw0 hd64 hpl ((pad_iff hu8 hpl).1 hpad) _ hlen hat
      rw [hpl] at this
      exact this.symm
  rw [e2, e3, hP]
  refine congrArg (fun l => ((tW b k : Nat) : Int) :: (packOut (levN (lsB b) k (lsB b).length) ((tW b k : Nat) : Int) ++ l)) ?_
  by_cases hk0 : k = 0
  · rw [if_pos hk0]
    unfold tB
    rw [tA_succ, if_pos hk0, Nat.add_zero, Nat.sub_self, List.take_zero]; rfl
  · rw [if_neg hk0]
    obtain ⟨d, d1, d2, d3, d4⟩ := hK.vc (by omega)
    rw [d1]
    congr 2
    have hlb : lastB (lsB b) k = (List.range (tN b k)).map (tBit b k) := ls_lastB T (by omega) hk
    rw [hlb]
    apply bt_ext
    · rw [pack_len, d2]; simp
    · intro j hj
      rw [pack_bt]
      by_cases hjn : j < tN b k
      · rw [List.getD_eq_getElem?_getD, List.getElem?_map, List.getElem?_range hjn]
        simp only [Option.map_some, Option.getD_some]
        rw [bit_data d1 d2 hjn]
      · rw [pad_bits d2 d3 j (by omega), getD_bool_out _ _ (by simp; omega)]
/-- What Open takes is what Build makes of its quads. -/
theorem open_tree (hU : opU b xs ys) (h : (opT b xs ys 4).1 = 0) : Right (lsB b) ∧ nums b = treeB (lsB b) := by
  have hz := op_zero h
  have hv : (vwE b).1 = 0 := (hz 0 (by omega)).1
  unfold vwE at hv
  by_cases hl : (lvE b 4).1 ≠ 0
  · rw [if_pos hl] at hv; exact absurd hv hl
  rw [if_neg hl] at hv
  obtain ⟨_, hC, hL⟩ := lv_ok (Classical.not_not.1 hl)
  have hend : tA b 4 = b.length := by
    by_cases ht : tA b 4 < b.length
    · rw [if_pos ht] at hv; cases hv
    · have e3 := (hL 3 (by omega)).en
      rw [show 3 + 1 = 4 from rfl] at e3
      omega
  have hK : ∀ k, k < 4 → LkOk b k := fun k hk => lk_ok (hU k hk (hz k hk).1) (hC k hk).le (hz k hk).2
  have T := lv_lvT hC hK
  refine ⟨ls_right T, ?_⟩
  have hm : ∀ k, k < 4 → tA b k ≤ tA b (k + 1) := fun k hk => by have := tE_ge b k; have := tX_ge b k; omega
  have m0 := hm 0 (by omega)
  have m1 := hm 1 (by omega)
  have m2 := hm 2 (by omega)
  have m3 := hm 3 (by omega)
  have p0 := (tUp_rg b 0).2
  have p1 := (tUp_rg b 1).2
  have p2 := (tUp_rg b 2).2
  have p3 := (tUp_rg b 3).2
  have q0 : tPl b 0 = 0 := rfl
  have q4 : tPl b 4 = tA b 0 := rfl
  simp only [Nat.zero_add, Nat.reduceAdd] at m0 m1 m2 m3 p0 p1 p2 p3
  have hlen : ∀ k, k < 4 → (levN (lsB b) k (lsB b).length).length = tN b k := fun k hk => by
    rw [show levN (lsB b) k (lsB b).length = _ from ls_levN T hk]; simp
  have s : ∀ k, k < 4 → sbN b (tA b k) (tA b (k + 1)) = secB (lsB b) k := fun k hk => sec_is T hk (hL k hk) (hK k hk) (hC k hk).le
  have hd : sbN b 0 (tA b 0) = headB (lsB b) := by
    unfold headB
    rw [hlen 0 (by omega), hlen 1 (by omega), hlen 2 (by omega), hlen 3 (by omega)]
    rw [← q4, ← up_sb (hC 0 (by omega)).er, ← up_sb (hC 1 (by omega)).er, ← up_sb (hC 2 (by omega)).er, ← up_sb (hC 3 (by omega)).er]
    rw [← sb_app (by omega) p1, ← sb_app (by omega) p2, ← sb_app (by omega) p3, q0]
  unfold treeB
  rw [← hd, ← s 0 (by omega), ← s 1 (by omega), ← s 2 (by omega), ← s 3 (by omega), ← sb_app (by omega) m0, ← sb_app (by omega) m1, ← sb_app (by omega) m2, ← sb_app (by omega) m3]
  rw [sb_all, show tA b (3 + 1) = b.length from hend]
end
end Go.Proofs.Ytgajpekolamjbaa
