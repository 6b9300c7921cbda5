/- DkH DlF, laid as one. -/
import Derived.Test.YtjgcmnppiaikcaaDkK
import Derived.Test.YtjgcmnppiaikcaaShelf
import Derived.Test.YtjgcmnppiaikcaaDkQ
set_option linter.unusedVariables false
set_option linter.unusedSimpArgs false
/- Find and Range, of a dictionary of any bytes. -/
namespace Go.Tk
open Go
/-- Does one text begin with another? -/
def preB (p x : List UInt8) : Bool := Lib.hasPrefix x p
end Go.Tk
namespace Go.Proofs.Ytjgcmnppiaikcaa
open Go.RowKit Go.Shelf Go.Tk
theorem hasPre_calls (s p : ByteArray) (w : World) : Calls Try.prog 57 #[.string s, .string p] w fun e w' => e = .returned (.bool (preB p.data.toList s.data.toList)) ∧ w = w' :=
  (Try.strings_HasPrefix s p w).mono fun _ _ ⟨h, e⟩ => ⟨h, e.symm⟩
theorem run_lt (t : TypeId) (a b : ByteArray) (P : Program) (w : World) : (binOp .lss t (.string a) (.string b)).run P w = .ok (.bool (ltB a.data.toList b.data.toList)) w := by
  simp [binOp, Op.stringOp, ltB, Lib.toList_data, go_sem]
theorem find1_calls (W : World) (t s : ByteArray) (b : Nat) (hb : Boxed W b 9 (.string s)) :
    Calls Try.prog 55 #[.string t, .pointer (some ⟨b, 0, none⟩)] W fun e w' => e = .returned (.bool (ltB t.data.toList s.data.toList)) ∧ Below W.heap.size W w' := by
  have c1 := hb.cell
  have e1 : ltB t.data.toList s.data.toList = Op.bytesLess t.toList s.toList := by simp [ltB, Lib.toList_data]
  rw [e1]
  clear e1 hb
  go_enter Try.func55, Try.ntmps55
  go_wp2
  go_ret
  exact ⟨rfl, Below.refl _ _⟩
theorem range1_calls (W : World) (t s : ByteArray) (b : Nat) (hb : Boxed W b 9 (.string s)) :
    Calls Try.prog 56 #[.string t, .pointer (some ⟨b, 0, none⟩)] W fun e w' => e = .returned (.bool (ltB t.data.toList s.data.toList || preB s.data.toList t.data.toList)) ∧ Below W.heap.size W w' := by
  have c1 := hb.cell
  have e1 : Op.bytesLess t.toList s.toList = ltB t.data.toList s.data.toList := by simp [ltB, Lib.toList_data]
  obtain ⟨lb, hlb⟩ : ∃ lb, lb = ltB t.data.toList s.data.toList := ⟨_, rfl⟩
  rw [← hlb] at e1 ⊢
  clear hb hlb
  cases lb with
  | true =>
    go_enter Try.func56, Try.ntmps56
    go_wp2_with (go_at_call 57; refine (hasPre_calls _ _ _).mono ?_; rintro e w' ⟨rfl, rfl⟩)
    go_ret
    exact ⟨by simp, Below.refl _ _⟩
  | false =>
    go_enter Try.func56, Try.ntmps56
    go_wp2_with (go_at_call 57; refine (hasPre_calls _ _ _).mono ?_; rintro e w' ⟨rfl, rfl⟩)
    go_ret
    exact ⟨by simp, Below.refl _ _⟩
/-- What Find says. -/
def findF (pz : List Int) (wd : Nat) (eb : List UInt8) (n : Nat) (s : List UInt8) : Nat × Bool :=
  (aheadF pz wd eb n (fun t => ltB t s), (getF pz wd eb n (aheadF pz wd eb n (fun t => ltB t s) : Nat)).2 && decide ((getF pz wd eb n (aheadF pz wd eb n (fun t => ltB t s) : Nat)).1 = s))
def rangeF (pz : List Int) (wd : Nat) (eb : List UInt8) (n : Nat) (s : List UInt8) : Nat × Nat :=
  (aheadF pz wd eb n (fun t => ltB t s), max (aheadF pz wd eb n (fun t => ltB t s)) (aheadF pz wd eb n (fun t => ltB t s || preB s t)))
theorem ahead_le (pz : List Int) (wd : Nat) (eb : List UInt8) (n : Nat) (tst : List UInt8 → Bool) : aheadF pz wd eb n tst ≤ n := by
  unfold aheadF
  simp only
  have hK := (bsF_le (tstB pz wd eb tst) ((n + 15) / 16) 0 ((n + 15) / 16) (by omega) (by omega)).2
  split
  · omega
  · have h1 : ((blkN pz wd eb n (bsF (tstB pz wd eb tst) ((n + 15) / 16) 0 ((n + 15) / 16) - 1)).takeWhile fun x => tst x.2).length ≤ (blkN pz wd eb n (bsF (tstB pz wd eb tst) ((n + 15) / 16) 0 ((n + 15) / 16) - 1)).length := by
      have := List.takeWhile_prefix (fun x : Nat × List UInt8 => tst x.2) (l := blkN pz wd eb n (bsF (tstB pz wd eb tst) ((n + 15) / 16) 0 ((n + 15) / 16) - 1))
      exact this.length_le
    generalize bsF (tstB pz wd eb tst) ((n + 15) / 16) 0 ((n + 15) / 16) = K at *
    have h2 : 16 * (K - 1) + (blkN pz wd eb n (K - 1)).length ≤ n := by
      by_cases h0 : (blkN pz wd eb n (K - 1)).length = 0
      · omega
      · have := bkF_at eb n 16 (16 * (K - 1)) (numT pz wd (K - 1) wd : Nat) [] ((blkN pz wd eb n (K - 1)).length - 1) (by unfold blkN at *; omega)
        omega
    omega
set_option maxRecDepth 100000 in
set_option maxHeartbeats 2000000 in
theorem find_calls (w : World) (gd n wd : Nat) (pa : Option Addr) (pc : Nat) (pz : List Int) (ea : Option Addr) (ec : Nat) (eb : List UInt8) (h : DictM w gd n wd pa pc pz ea ec (nums eb)) (s : ByteArray) :
    Calls Try.prog 26 #[.pointer (some ⟨gd, 0, none⟩), .string s] w fun e w' => e = .returned (.tuple #[.int .i64 (findF pz wd eb n s.data.toList).1, .bool (findF pz wd eb n s.data.toList).2]) ∧ Below w.heap.size w w' := by
  have hnN := h.nN
  have hkn := ahead_le pz wd eb n (fun t => ltB t s.data.toList)
  unfold findF
  obtain ⟨k, hk⟩ : ∃ k, k = aheadF pz wd eb n (fun t => ltB t s.data.toList) := ⟨_, rfl⟩
  rw [← hk] at hkn ⊢
  obtain ⟨W0, hW0⟩ : ∃ W0, W0 = w.alloc (.cells #[.string s] 9) := ⟨_, rfl⟩
  have b1 : Boxed W0 w.heap.size 9 (.string s) := by rw [hW0]; exact Boxed.new w _ _
  have hB0 : Below w.heap.size w W0 := by rw [hW0]; exact (Below.refl _ w).alloc (Nat.le_refl _) _
  have hz0 : W0.heap.size = w.heap.size + 1 := by rw [hW0]; simp
  have eg : ∀ args W, (callFunc 55 args).run Try.prog W = .ok (.enter 55 args) W := enters_of Try.func55 (by kernel_rfl) rfl
  have hah := ahead_calls W0 gd n wd pa pc pz ea ec eb (h.keep hB0) _ #[.pointer (some ⟨w.heap.size, 0, none⟩)] (fun t => ltB t s.data.toList) eg (fun W t _ hW => find1_calls W t s w.heap.size ((hW.block _ (by omega)).trans b1))
  rw [← hk] at hah
  obtain ⟨gv, hgv⟩ : ∃ gv, gv = getF pz wd eb n (k : Nat) := ⟨_, rfl⟩
  have hget : ∀ W, Below w.heap.size w W → Calls Try.prog 25 #[.pointer (some ⟨gd, 0, none⟩), .int .i64 (k : Nat)] W fun e w' => e = .returned (.tuple #[.string ⟨gv.1.toArray⟩, .bool gv.2]) ∧ Below W.heap.size W w' := fun W hW => by
    rw [hgv]
    exact get_calls W gd n wd pa pc pz ea ec eb (h.keep hW) (k : Nat) ⟨by omega, by omega⟩
  rw [← hgv]
  obtain ⟨gs, gb⟩ := gv
  simp only at hget ⊢
  obtain ⟨sB, hsB⟩ : ∃ sB : ByteArray, sB = ⟨gs.toArray⟩ := ⟨_, rfl⟩
  rw [← hsB] at hget
  have heq : decide (gs = s.data.toList) = (sB.toList == s.toList) := by
    rw [Lib.toList_data, Lib.toList_data, hsB]
    by_cases e : gs = s.data.toList
    · rw [decide_eq_true e, e]; simp
    · rw [decide_eq_false e]; symm; rw [beq_eq_false_iff_ne]; exact e
  rw [heq]
  obtain ⟨eb2, heb2⟩ : ∃ eb2 : Bool, eb2 = (sB.toList == s.toList) := ⟨_, rfl⟩
  rw [← heb2]
  have HE := Lib.hid heb2
  have c1 := b1.cell
  have HAH := Lib.hid hah
  have HG := Lib.hid hget
  have HB0 := Lib.hid hB0
  have HW0 := Lib.hid hW0
  have B1 := Lib.hid b1
  clear hah hget hB0 hW0 b1 h hk hgv hsB heq heb2
  go_enter Try.func26, Try.ntmps26
  go_upto_region 1 with fail
  rw [← HW0.out]
  clear HW0
  go_upto_region 3 with (first
    | (go_at_call 54; (with_reducible refine HAH.out.mono ?_); rintro e w1 ⟨rfl, hb1⟩; (have HB1 := Lib.hid (HB0.out.trans (hb1.mono HB0.out.size))); (have c2 : w1.cell? ⟨w.heap.size, 0, none⟩ = some (.string s) := (hb1.cell (p := ⟨w.heap.size, 0, none⟩) (by show w.heap.size < W0.heap.size; omega)).trans c1); (have z1 : w.heap.size < w1.heap.size := by have := hb1.size; omega); clear hb1)
    | (go_at_call 25; (with_reducible refine (HG.out _ HB1.out).mono ?_); rintro e w2 ⟨rfl, hb2⟩; (have HB2 := Lib.hid (HB1.out.trans (hb2.mono HB1.out.size))); (have c3 : w2.cell? ⟨w.heap.size, 0, none⟩ = some (.string s) := (hb2.cell (p := ⟨w.heap.size, 0, none⟩) z1).trans c2); clear hb2))
  have e2 := HE.out.symm
  cases gb with
  | true =>
    go_quiet (fail)
    go_wp2
    go_ret2
    exact ⟨by simp, below_drewN HB2.out nq⟩
  | false =>
    go_quiet (fail)
    go_wp2
    go_ret2
    exact ⟨by simp, below_drewN HB2.out nq⟩
set_option maxRecDepth 100000 in
set_option maxHeartbeats 2000000 in
theorem range_calls (w : World) (gd n wd : Nat) (pa : Option Addr) (pc : Nat) (pz : List Int) (ea : Option Addr) (ec : Nat) (eb : List UInt8) (h : DictM w gd n wd pa pc pz ea ec (nums eb)) (s : ByteArray) :
    Calls Try.prog 27 #[.pointer (some ⟨gd, 0, none⟩), .string s] w fun e w' => e = .returned (.tuple #[.int .i64 (rangeF pz wd eb n s.data.toList).1, .int .i64 (rangeF pz wd eb n s.data.toList).2]) ∧ Below w.heap.size w w' := by
  have hnN := h.nN
  have hfn := ahead_le pz wd eb n (fun t => ltB t s.data.toList)
  have htn := ahead_le pz wd eb n (fun t => ltB t s.data.toList || preB s.data.toList t)
  unfold rangeF
  obtain ⟨W0, hW0⟩ : ∃ W0, W0 = w.alloc (.cells #[.string s] 9) := ⟨_, rfl⟩
  have b1 : Boxed W0 w.heap.size 9 (.string s) := by rw [hW0]; exact Boxed.new w _ _
  have hB0 : Below w.heap.size w W0 := by rw [hW0]; exact (Below.refl _ w).alloc (Nat.le_refl _) _
  have hz0 : W0.heap.size = w.heap.size + 1 := by rw [hW0]; simp
  have eg : ∀ args W, (callFunc 56 args).run Try.prog W = .ok (.enter 56 args) W := enters_of Try.func56 (by kernel_rfl) rfl
  have hfd : ∀ W, Below w.heap.size w W → Calls Try.prog 26 #[.pointer (some ⟨gd, 0, none⟩), .string s] W fun e w' => e = .returned (.tuple #[.int .i64 (aheadF pz wd eb n (fun t => ltB t s.data.toList) : Nat), .bool (findF pz wd eb n s.data.toList).2]) ∧ Below W.heap.size W w' := fun W hW => find_calls W gd n wd pa pc pz ea ec eb (h.keep hW) s
  have hah : ∀ W1, Below W0.heap.size W0 W1 → Calls Try.prog 54 #[.pointer (some ⟨gd, 0, none⟩), .func (.func 56) #[] #[.pointer (some ⟨w.heap.size, 0, none⟩)]] W1 fun e w' => e = .returned (.int .i64 (aheadF pz wd eb n (fun t => ltB t s.data.toList || preB s.data.toList t) : Nat)) ∧ Below W1.heap.size W1 w' := fun W1 hW1 =>
    ahead_calls W1 gd n wd pa pc pz ea ec eb (h.keep (hB0.trans (hW1.mono (by omega)))) _ #[.pointer (some ⟨w.heap.size, 0, none⟩)] (fun t => ltB t s.data.toList || preB s.data.toList t) eg (fun W t _ hW => range1_calls W t s w.heap.size ((hW.block _ (by have := hW1.size; omega)).trans ((hW1.block _ (by omega)).trans b1)))
  obtain ⟨k, hk⟩ : ∃ k, k = aheadF pz wd eb n (fun t => ltB t s.data.toList) := ⟨_, rfl⟩
  obtain ⟨m, hm⟩ : ∃ m, m = aheadF pz wd eb n (fun t => ltB t s.data.toList || preB s.data.toList t) := ⟨_, rfl⟩
  obtain ⟨fb, hfb⟩ : ∃ fb, fb = (findF pz wd eb n s.data.toList).2 := ⟨_, rfl⟩
  rw [← hk] at hfn hfd ⊢
  rw [← hm] at htn hah ⊢
  rw [← hfb] at hfd
  have c1 := b1.cell
  have HAH := Lib.hid hah
  have HF := Lib.hid hfd
  have HB0 := Lib.hid hB0
  have HW0 := Lib.hid hW0
  clear hah hfd hB0 hW0 b1 h hk hm hfb
  go_enter Try.func27, Try.ntmps27
  go_upto_region 1 with fail
  rw [← HW0.out]
  clear HW0
  go_wp2_with (first
    | (go_at_call 26; (with_reducible refine (HF.out _ HB0.out).mono ?_); rintro e w1 ⟨rfl, hb1⟩; (have HB1 := Lib.hid hb1); clear hb1)
    | (go_at_call 54; (with_reducible refine (HAH.out _ HB1.out).mono ?_); rintro e w2 ⟨rfl, hb2⟩; (have HB2 := Lib.hid ((HB0.out.trans (HB1.out.mono HB0.out.size)).trans (hb2.mono (HB0.out.trans (HB1.out.mono HB0.out.size)).size)))))
  go_ret2
  exact ⟨by rw [show ((max k m : Nat) : Int) = max (k : Int) (m : Int) by omega]; rfl, HB2.out⟩
end Go.Proofs.Ytjgcmnppiaikcaa
/- Find and Range of a dictionary that Build made. Plain. -/
namespace Go.Proofs.Ytjgcmnppiaikcaa
open Go Go.RowKit Go.Tk
/-- How many texts stand ahead of one; how many stand ahead of a prefix or begin with it. -/
def fnd (L : List (List UInt8)) (s : List UInt8) : Nat := (L.takeWhile fun t => ltB t s).length
def fnd2 (L : List (List UInt8)) (s : List UInt8) : Nat := (L.takeWhile fun t => ltB t s || preB s t).length
theorem fnd_cut {L : List (List UInt8)} (hG : Good L) (s : List UInt8) : fnd L s ≤ L.length ∧ ∀ i, i < L.length → ltB (L.getD i []) s = decide (i < fnd L s) :=
  tw_cut (fun t => ltB t s) L fun i j hij hj ht => ltB_trans (good_lt hG hij hj) ht
theorem fnd2_cut {L : List (List UInt8)} (hG : Good L) (s : List UInt8) : fnd2 L s ≤ L.length ∧ ∀ i, i < L.length → (ltB (L.getD i []) s || preB s (L.getD i [])) = decide (i < fnd2 L s) :=
  tw_cut (fun t => ltB t s || preB s t) L fun i j hij hj ht => pre_down (good_lt hG hij hj) ht
theorem ahead_fnd {L : List (List UInt8)} (hG : Good L) {eb : List UInt8} (he : nums eb = areaN L L.length) (s : List UInt8) : aheadF (packD L) (widthD L).toNat eb L.length (fun t => ltB t s) = fnd L s :=
  ahead_built hG he _ _ (fnd_cut hG s).1 (fnd_cut hG s).2
theorem ahead_fnd2 {L : List (List UInt8)} (hG : Good L) {eb : List UInt8} (he : nums eb = areaN L L.length) (s : List UInt8) : aheadF (packD L) (widthD L).toNat eb L.length (fun t => ltB t s || preB s t) = fnd2 L s :=
  ahead_built hG he _ _ (fnd2_cut hG s).1 (fnd2_cut hG s).2
theorem fnd_le2 {L : List (List UInt8)} (hG : Good L) (s : List UInt8) : fnd L s ≤ fnd2 L s := by
  rcases Nat.lt_or_ge (fnd2 L s) (fnd L s) with h | h
  · have h1 := (fnd_cut hG s).1
    have h2 := (fnd_cut hG s).2 (fnd2 L s) (by omega)
    have h3 := (fnd2_cut hG s).2 (fnd2 L s) (by omega)
    rw [decide_eq_true h] at h2
    rw [h2, decide_eq_false (by omega)] at h3
    cases h3
  · exact h
theorem find_built {L : List (List UInt8)} (hG : Good L) {eb : List UInt8} (he : nums eb = areaN L L.length) (s : List UInt8) :
    findF (packD L) (widthD L).toNat eb L.length s = (fnd L s, decide (fnd L s < L.length ∧ L.getD (fnd L s) [] = s)) := by
  unfold findF
  rw [ahead_fnd hG he, get_built hG he]
  by_cases h : fnd L s < L.length
  · rw [if_pos ⟨by omega, by omega⟩]
    simp only [Int.toNat_natCast, Bool.true_and]
    simp [h]
  · rw [if_neg (by omega)]
    simp [h]
theorem range_built {L : List (List UInt8)} (hG : Good L) {eb : List UInt8} (he : nums eb = areaN L L.length) (s : List UInt8) :
    rangeF (packD L) (widthD L).toNat eb L.length s = (fnd L s, fnd2 L s) := by
  unfold rangeF
  rw [ahead_fnd hG he, ahead_fnd2 hG he, Nat.max_eq_right (fnd_le2 hG s)]
end Go.Proofs.Ytjgcmnppiaikcaa
