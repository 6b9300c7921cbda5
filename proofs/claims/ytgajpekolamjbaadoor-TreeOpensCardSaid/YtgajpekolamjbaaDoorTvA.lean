/- TvP TvA, laid as one. -/
import Derived.Test.YtgajpekolamjbaaDoorTvU
import Derived.Test.YtgajpekolamjbaaDoorRkZ
import Derived.Test.YtgajpekolamjbaaDoorRkV
import Derived.Test.YtgajpekolamjbaaDoorBitsCur
import Derived.Outline
import Derived.Deep.Cut
set_option linter.unusedVariables false
set_option linter.unusedSimpArgs false
/- What View says of any bytes of a tree. Plain. -/
namespace Go.Proofs.YtgajpekolamjbaaDoor
open Go Go.RowKit Go.Tk
/-- The numbers of the head, one by one: the number, the place behind it, its error. -/
def tUp (b : List UInt8) : Nat → Int × Nat × Int
  | 0 => upS (nums b) 0 0 mxU
  | k + 1 => upS (nums b) (tUp b k).2.1 0 mxU
/-- The place of a number of the head. -/
def tPl (b : List UInt8) : Nat → Nat
  | 0 => 0
  | k + 1 => (tUp b k).2.1
/-- How many entries a level has. -/
def tN (b : List UInt8) (k : Nat) : Nat := (tUp b k).1.toNat
/-- What is wrong with a number of the head: an error and its place (0: nothing). -/
def cE (b : List UInt8) (k : Nat) : Int × Nat :=
  if (tUp b k).2.2 ≠ 0 then ((tUp b k).2.2, tPl b k) else
  if 1048576 < (tUp b k).1 then (2, tPl b k) else
  if 0 < k ∧ (tN b k < tN b (k - 1) ∨ decide (tN b (k - 1) = 0) ≠ decide (tN b k = 0)) then (180, tPl b k) else (0, 0)
def cnE (b : List UInt8) : Nat → Int × Nat
  | 0 => (0, 0)
  | k + 1 => if (cnE b k).1 ≠ 0 then cnE b k else cE b k
def bAt (b : List UInt8) (i : Nat) : Nat := (b.getD i 0).toNat
/-- Where a level begins. -/
def tA (b : List UInt8) : Nat → Nat
  | 0 => tPl b 4
  | k + 1 => tA b k + 1 + (tN b k * bAt b (tA b k) + 7) / 8 + if k = 0 then 0 else oE (tN b k) (tN b (k - 1))
def tW (b : List UInt8) (k : Nat) : Nat := bAt b (tA b k)
/-- Where its packed numbers end. -/
def tE (b : List UInt8) (k : Nat) : Nat := tA b k + 1 + (tN b k * tW b k + 7) / 8
def lE (b : List UInt8) (k : Nat) : Int × Nat :=
  if b.length ≤ tA b k then (10, b.length) else
  if 23 < tW b k then (14, tA b k) else
  if b.length < tA b (k + 1) then (10, b.length) else (0, 0)
def lvE (b : List UInt8) : Nat → Int × Nat
  | 0 => cnE b 4
  | k + 1 => if (lvE b k).1 ≠ 0 then lvE b k else lE b k
/-- What View says. -/
def vwE (b : List UInt8) : Int × Nat := if (lvE b 4).1 ≠ 0 then lvE b 4 else if tA b 4 < b.length then (13, tA b 4) else (0, 0)
theorem tA_succ (b : List UInt8) (k : Nat) : tA b (k + 1) = tE b k + if k = 0 then 0 else oE (tN b k) (tN b (k - 1)) := by
  simp only [tA]; unfold tE tW; rfl
theorem tUp_at (b : List UInt8) (k : Nat) : tUp b k = upS (nums b) (tPl b k) 0 mxU := by
  cases k with
  | zero => rfl
  | succ k => rfl
theorem tPl_le (b : List UInt8) : ∀ k, tPl b k ≤ b.length
  | 0 => Nat.zero_le _
  | k + 1 => by
    have h := tPl_le b k
    have := ups_range (nums b) (tPl b k) 0 (by rw [nums_len]; exact h)
    rw [nums_len, ← tUp_at] at this
    exact this.2.2
theorem tUp_rg (b : List UInt8) (k : Nat) : (0 ≤ (tUp b k).1 ∧ (tUp b k).1 < 18446744073709551616) ∧ tPl b k ≤ tPl b (k + 1) := by
  have := ups_range (nums b) (tPl b k) 0 (by rw [nums_len]; exact tPl_le b k)
  rw [nums_len, ← tUp_at] at this
  exact ⟨this.1, this.2.1⟩
theorem tUp_nat (b : List UInt8) (k : Nat) : (tUp b k).1 = (tN b k : Nat) := by
  have := (tUp_rg b k).1.1
  unfold tN; omega
theorem cn_stop (b : List UInt8) {k j : Nat} (h : k ≤ j) (he : (cnE b k).1 ≠ 0) : cnE b j = cnE b k := by
  induction j with
  | zero => have : k = 0 := by omega
            subst this; rfl
  | succ j ih =>
    by_cases hk : k = j + 1
    · subst hk; rfl
    · have := ih (by omega)
      simp only [cnE]
      rw [this, if_pos he]
theorem lv_stop (b : List UInt8) {k j : Nat} (h : k ≤ j) (he : (lvE b k).1 ≠ 0) : lvE b j = lvE b k := by
  induction j with
  | zero => have : k = 0 := by omega
            subst this; rfl
  | succ j ih =>
    by_cases hk : k = j + 1
    · subst hk; rfl
    · have := ih (by omega)
      simp only [lvE]
      rw [this, if_pos he]
/-- What holds of a number of the head that is right. -/
structure CnOk (b : List UInt8) (k : Nat) : Prop where
  er : (tUp b k).2.2 = 0
  le : tN b k ≤ 1048576
  up : 0 < k → tN b (k - 1) ≤ tN b k ∧ (tN b (k - 1) = 0 ↔ tN b k = 0)
theorem cE_ok {b : List UInt8} {k : Nat} (h : (cE b k).1 = 0) : CnOk b k ∧ cE b k = (0, 0) := by
  unfold cE at h ⊢
  by_cases h1 : (tUp b k).2.2 ≠ 0
  · rw [if_pos h1] at h; exact absurd h h1
  rw [if_neg h1] at h ⊢
  by_cases h2 : 1048576 < (tUp b k).1
  · rw [if_pos h2] at h; cases h
  rw [if_neg h2] at h ⊢
  by_cases h3 : 0 < k ∧ (tN b k < tN b (k - 1) ∨ decide (tN b (k - 1) = 0) ≠ decide (tN b k = 0))
  · rw [if_pos h3] at h; cases h
  rw [if_neg h3]
  refine ⟨⟨Classical.not_not.1 h1, by have := tUp_nat b k; omega, fun h0 => ?_⟩, rfl⟩
  refine ⟨Decidable.byContradiction fun hn => h3 ⟨h0, .inl (by omega)⟩, ?_⟩
  by_cases ha : tN b (k - 1) = 0 <;> by_cases hb : tN b k = 0
  · exact ⟨fun _ => hb, fun _ => ha⟩
  · exact absurd ⟨h0, .inr (by rw [decide_eq_true ha, decide_eq_false hb]; decide)⟩ h3
  · exact absurd ⟨h0, .inr (by rw [decide_eq_false ha, decide_eq_true hb]; decide)⟩ h3
  · exact ⟨fun h => absurd h ha, fun h => absurd h hb⟩
theorem cn_ok {b : List UInt8} : ∀ {j : Nat}, (cnE b j).1 = 0 → cnE b j = (0, 0) ∧ ∀ k, k < j → CnOk b k
  | 0, _ => ⟨rfl, fun k hk => by omega⟩
  | j + 1, h => by
    simp only [cnE] at h ⊢
    by_cases h1 : (cnE b j).1 ≠ 0
    · rw [if_pos h1] at h; exact absurd h h1
    rw [if_neg h1] at h ⊢
    obtain ⟨h2, h3⟩ := cE_ok h
    refine ⟨h3, fun k hk => ?_⟩
    by_cases e : k = j
    · subst e; exact h2
    · exact (cn_ok (Classical.not_not.1 h1)).2 k (by omega)
/-- What holds of a level that lies there. -/
structure LvOk (b : List UInt8) (k : Nat) : Prop where
  lt : tA b k < b.length
  wd : tW b k ≤ 23
  en : tA b (k + 1) ≤ b.length
theorem lE_ok {b : List UInt8} {k : Nat} (h : (lE b k).1 = 0) : LvOk b k ∧ lE b k = (0, 0) := by
  unfold lE at h ⊢
  by_cases h1 : b.length ≤ tA b k
  · rw [if_pos h1] at h; cases h
  rw [if_neg h1] at h ⊢
  by_cases h2 : 23 < tW b k
  · rw [if_pos h2] at h; cases h
  rw [if_neg h2] at h ⊢
  by_cases h3 : b.length < tA b (k + 1)
  · rw [if_pos h3] at h; cases h
  rw [if_neg h3]
  exact ⟨⟨by omega, by omega, by omega⟩, rfl⟩
theorem lv_ok {b : List UInt8} : ∀ {j : Nat}, (lvE b j).1 = 0 → lvE b j = (0, 0) ∧ (∀ k, k < 4 → CnOk b k) ∧ ∀ k, k < j → LvOk b k
  | 0, h => ⟨(cn_ok h).1, (cn_ok h).2, fun k hk => by omega⟩
  | j + 1, h => by
    simp only [lvE] at h ⊢
    by_cases h1 : (lvE b j).1 ≠ 0
    · rw [if_pos h1] at h; exact absurd h h1
    rw [if_neg h1] at h ⊢
    obtain ⟨h2, h3⟩ := lE_ok h
    obtain ⟨_, h5, h6⟩ := lv_ok (Classical.not_not.1 h1)
    refine ⟨h3, h5, fun k hk => ?_⟩
    by_cases e : k = j
    · subst e; exact h2
    · exact h6 k (by omega)
/-- A level's packed numbers; its vector's bytes; are these a vector of this tree? -/
def tP (b : List UInt8) (k : Nat) : List UInt8 := (b.drop (tA b k + 1)).take (tE b k - (tA b k + 1))
def tB (b : List UInt8) (k : Nat) : List UInt8 := (b.drop (tE b k)).take (tA b (k + 1) - tE b k)
def tV (b : List UInt8) (k : Nat) : Bool := decide (0 < k) && decide ((fV (tB b k)).2 = 0) && decide (f4 (tB b k) 0 = tN b k) && decide (f4 (tB b k) 4 = tN b (k - 1))
theorem tE_ge (b : List UInt8) (k : Nat) : tA b k + 1 ≤ tE b k := by unfold tE; omega
theorem tX_ge (b : List UInt8) (k : Nat) : tE b k ≤ tA b (k + 1) := by rw [tA_succ]; omega
end Go.Proofs.YtgajpekolamjbaaDoor
/- The counts at the front of any bytes of a tree. -/
namespace Go.Proofs.YtgajpekolamjbaaDoor
open Go Go.RowKit Go.Tk
/-- A tree that holds nothing yet; with the counts of the first k levels. -/
def tz (i : Nat) : Value := if i % 8 < 5 then .int .i64 0 else if i % 8 < 7 then .slice none 0 0 else .pointer none
def tcN (b : List UInt8) (k : Nat) (i : Nat) : Value := if i % 8 = 0 ∧ i / 8 < k then .int .i64 (tN b (i / 8) : Nat) else tz i
theorem tcN_zero (b : List UInt8) : tcN b 0 = tz := by funext i; unfold tcN; rw [if_neg (by omega)]
theorem tcN_set (b : List UInt8) (k : Nat) : setF (tcN b k) (k * 8) (.int .i64 (tN b k : Nat)) = tcN b (k + 1) := by
  funext i
  by_cases e : i = k * 8
  · subst e; rw [setF_same]; unfold tcN; rw [if_pos (by omega), show k * 8 / 8 = k by omega]
  · rw [setF_other _ _ e]
    unfold tcN
    by_cases h : i % 8 = 0 ∧ i / 8 < k
    · rw [if_pos h, if_pos (by omega)]
    · rw [if_neg h, if_neg (by omega)]
theorem tcN_at (b : List UInt8) {k j : Nat} (h : j < k) : tcN b k (j * 8) = .int .i64 (tN b j : Nat) := by
  unfold tcN; rw [if_pos (by omega), show j * 8 / 8 = j by omega]
theorem tcN_old (b : List UInt8) (k : Nat) : ∃ x, tcN b k (k * 8) = .int .i64 x := by
  unfold tcN tz; rw [if_neg (by omega), if_pos (by omega)]; exact ⟨0, rfl⟩
theorem twrong_calls (x y : Int) (w : World) : Calls Tryd.prog 14 #[.int .i64 x, .int .i64 y] w fun e w' => ∃ b, e = .returned (.iface 61 (.pointer (some ⟨b, 0, none⟩))) ∧ w.heap.size ≤ b ∧ w'.heap[b]? = some (.cells #[.int .i64 x, .iface 54 (.int .i64 y)] 65 (0, 0)) ∧ Below w.heap.size w w' := by
  go_enter Tryd.func14, Tryd.ntmps14
  go_wp2
  go_ret
  exact ⟨_, rfl, Nat.le_refl _, heap_alloc_new _ _, (Below.refl _ _).alloc (Nat.le_refl _) _⟩
/-- What counts hands back. -/
def CnR (w : World) (gd c : Nat) (a : Option Addr) (cap : Nat) (b : List UInt8) (e : Ending) (w' : World) : Prop :=
  Kept (fun g => g = gd ∨ g = c) w w' ∧ (((cnE b 4).1 ≠ 0 ∧ ∃ v, e = .returned v ∧ EV w' v (cnE b 4).2 (cnE b 4).1) ∨
    ((cnE b 4).1 = 0 ∧ e = .returned .nilIface ∧ RowC w' gd 32 47 (tcN b 4) ∧ CurC w' c a cap (nums b) (tPl b 4) 0))
set_option maxRecDepth 100000 in
set_option maxHeartbeats 2000000 in
theorem counts_calls (w : World) (gd c : Nat) (a : Option Addr) (cap : Nat) (b : List UInt8) (hT : RowC w gd 32 47 tz) (hC : CurC w c a cap (nums b) 0 0) (hgc : gd ≠ c) (hga : ∀ x, a = some x → x.block ≠ gd) :
    Calls Tryd.prog 12 #[.pointer (some ⟨gd, 0, none⟩), .pointer (some ⟨c, 0, none⟩)] w (CnR w gd c a cap b) := by
  have HT := Lib.hid hT
  have HC := Lib.hid hC
  have HGA := Lib.hid hga
  have HU := Lib.hid (nums_u8 b)
  have zg := hT.lt
  have zc := (Array.getElem?_eq_some_iff.1 hC.blk).1
  clear hT hC hga
  go_enter Tryd.func12, Tryd.ntmps12
  go_wp2
  go_loopw [9] (fun iv wr => ∃ (k : Nat), iv = .int .i64 (k : Nat) ∧ k ≤ 4 ∧ (cnE b k).1 = 0 ∧ RowC wr gd 32 47 (tcN b k) ∧ CurC wr c a cap (nums b) (tPl b k) 0 ∧ Kept (fun g => g = gd ∨ g = c) w wr) (fun iv _ => 4 - (intOf iv).toNat)
  case atStart => exact ⟨0, rfl, Nat.zero_le _, rfl, by rw [tcN_zero]; exact HT.out, HC.out, Kept.refl _ _⟩
  case round =>
    rename World => wr
    obtain ⟨k, rfl, hk, hcn, hrow, hcur, hkp⟩ := hrel
    have HCN := Lib.hid hcn
    have HROW := Lib.hid hrow
    have HCUR := Lib.hid hcur
    have HKP := Lib.hid hkp
    have hzr := hkp.size
    clear hcn hrow hcur hkp
    by_cases hk4 : k < 4
    · have hv := cvarint_calls wr c a cap (nums b) (tPl b k) 0 HCUR.out HU.out
      rw [← tUp_at] at hv
      obtain ⟨er, her⟩ : ∃ er, er = (tUp b k).2.2 := ⟨_, rfl⟩
      have hnn := tUp_nat b k
      obtain ⟨nk, hnk⟩ : ∃ nk, nk = tN b k := ⟨_, rfl⟩
      rw [← hnk] at hnn
      rw [hnn] at hv
      obtain ⟨pl, hpl⟩ : ∃ pl, pl = tPl b k := ⟨_, rfl⟩
      have hpl1 : (tUp b k).2.1 = tPl b (k + 1) := rfl
      rw [hpl1, ← her] at hv
      have hce : cE b k = if er ≠ 0 then (er, pl) else if 1048576 < (nk : Int) then (2, pl) else if 0 < k ∧ (nk < tN b (k - 1) ∨ decide (tN b (k - 1) = 0) ≠ decide (nk = 0)) then (180, pl) else (0, 0) := by
        unfold cE; rw [← her, ← hpl, hnn, ← hnk]
      have hend : (cE b k).1 ≠ 0 → cnE b 4 = cE b k := fun h => by
        have e : cnE b (k + 1) = cE b k := by simp only [cnE]; rw [if_neg (by rw [HCN.out]; simp)]
        rw [← e]; exact cn_stop b (by omega) (by rw [e]; exact h)
      have hgo : (cE b k).1 = 0 → (cnE b (k + 1)).1 = 0 := fun h => by simp only [cnE]; rw [if_neg (by rw [HCN.out]; simp), h]
      have hat := at_calls wr c a cap (nums b) (tPl b k) 0 HCUR.out
      rw [← hpl] at hat
      have HCE := Lib.hid hce
      have HEND := Lib.hid hend
      have HGO := Lib.hid hgo
      have HV := Lib.hid hv
      have HAT := Lib.hid hat
      have HER := Lib.hid her
      have HNK := Lib.hid hnk
      clear hce hend hgo hv hat her hnn hnk hpl hpl1
      by_cases he : er = 0
      · have e1 : (er != 0) = false := by simp [he]
        have e1' := he
        clear he
        have hce2 : cE b k = if 1048576 < (nk : Int) then (2, pl) else if 0 < k ∧ (nk < tN b (k - 1) ∨ decide (tN b (k - 1) = 0) ≠ decide (nk = 0)) then (180, pl) else (0, 0) := by rw [HCE.out, if_neg (by simp [e1'])]
        have HCE2 := Lib.hid hce2
        clear hce2 HCE
        subst e1'
        by_cases hbig : 1048576 < nk
        · have hcE : cE b k = (2, pl) := by rw [HCE2.out, if_pos (by omega)]
          have hend := HEND.out (by rw [hcE]; simp)
          rw [hcE] at hend
          have HE4 := Lib.hid hend
          have d1 : decide ((1048576 : Int) < (nk : Int)) = true := decide_eq_true (by omega)
          have d2 : decide (1048576 < nk) = true := decide_eq_true hbig
          clear hcE hend
          go_wp2_with (first
          | (go_at_call 13; refine HAT.out.mono ?_; rintro e w1 ⟨rfl, rfl⟩)
          | (go_at_call 25; refine HV.out.mono ?_; rintro e w2 ⟨rfl, hC2, k2⟩; (have HC2 := Lib.hid hC2); (have K2 := Lib.hid (HKP.out.trans k2 (fun i hi => .inl (.inr hi)))); clear hC2 k2)
          | (go_at_call 26; refine (err_calls _ c a cap _ _ _ HC2.out).mono ?_; rintro e w3 ⟨rfl, rfl⟩)
          | (go_at_call 14; (with_reducible refine (twrong_calls _ _ _).mono ?_); rintro e w9 ⟨b9, rfl, hb9, hr9, hbe9⟩; (have HR9 := Lib.hid hr9); (have HBE9 := Lib.hid hbe9); clear hr9 hbe9))
          go_ret
          refine ⟨K2.out.trans (Kept.none_of_below HBE9.out) (fun _ h => h.elim), .inl ⟨by rw [HE4.out]; simp, _, rfl, ?_⟩⟩
          rw [HE4.out]
          exact .inr ⟨_, by simp, rfl, HR9.out⟩
        · have d1 : decide ((1048576 : Int) < (nk : Int)) = false := decide_eq_false (by omega)
          have d2 : decide (1048576 < nk) = false := decide_eq_false hbig
          have hwk : IntKind.i64.wrap (nk : Int) = (nk : Int) := by rw [IntKind.wrap_i64]; omega
          have hcE : cE b k = if 0 < k ∧ (nk < tN b (k - 1) ∨ decide (tN b (k - 1) = 0) ≠ decide (nk = 0)) then (180, pl) else (0, 0) := by rw [HCE2.out, if_neg (by omega)]
          have HCE3 := Lib.hid hcE
          obtain ⟨x0, hx0⟩ := tcN_old b k
          clear hcE HCE2
          have hk8 : ∀ X, Kept (fun g => g = c) wr X → RowC X gd 32 47 (tcN b k) := fun X h => HROW.out.kept h hgc
          have HK8 := Lib.hid hk8
          clear hk8
          go_upto_region 11 with (first
            | (go_at_call 13; refine HAT.out.mono ?_; rintro e w1 ⟨rfl, rfl⟩)
            | (go_at_call 25; refine HV.out.mono ?_; rintro e w2 ⟨rfl, hC2, k2⟩; (have HC2 := Lib.hid hC2); (have HR2 := Lib.hid (HK8.out _ k2)); (have K2 := Lib.hid (HKP.out.trans k2 (fun i hi => .inl (.inr hi)))); clear hC2 k2)
            | (go_at_call 26; refine (err_calls _ c a cap _ _ _ HC2.out).mono ?_; rintro e w3 ⟨rfl, rfl⟩))
          rename World => w3
          have c0 := HR2.out.cell (i := k * 8) (by omega)
          rw [hx0] at c0
          have f0 := HR2.out.frozen (k * 8)
          have hr4 := HR2.out.set (k * 8) (.int .i64 (nk : Nat))
          rw [HNK.out, tcN_set, ← HNK.out] at hr4
          have k34 : Kept (fun g => g = gd) w3 (w3.setCell ⟨gd, k * 8, none⟩ (.int .i64 (nk : Nat))) := (Kept.refl (fun g => g = gd) w3).setCell (p := ⟨gd, k * 8, none⟩) (.inl rfl) _
          have hc4 := HC2.out.kept k34 (fun e => hgc e.symm) (fun x hx => HGA.out x hx)
          have k4 := K2.out.trans k34 (fun i hi => .inl (.inl hi))
          go_upto_region 12 with fail
          generalize w3.setCell ⟨gd, k * 8, none⟩ (.int .i64 (nk : Nat)) = w4 at hr4 hc4 k4 ⊢
          have HR4 := Lib.hid hr4
          have HC4 := Lib.hid hc4
          have K4 := Lib.hid k4
          clear hr4 hc4 k4 k34 c0 f0 HR2 HC2 K2 HK8 HV HAT HROW HCUR
          by_cases h0 : 0 < k
          · have dk : decide (0 < k) = true := decide_eq_true h0
            obtain ⟨k1, hk1⟩ : ∃ k1 : Nat, k1 = k - 1 := ⟨_, rfl⟩
            obtain ⟨m, hm⟩ : ∃ m, m = tN b k1 := ⟨_, rfl⟩
            have c1 := HR4.out.cell (i := k1 * 8) (by omega)
            rw [tcN_at b (by omega), ← hm] at c1
            have hk5 : (k : Int) - 1 = (k1 : Int) := by omega
            have hk6 : k1 < 4 := by omega
            have hk7 : IntKind.i64.wrap (k1 : Int) = (k1 : Int) := by rw [IntKind.wrap_i64]; omega
            rw [← hk1, ← hm] at HCE3
            clear hk1
            by_cases hA : nk < m
            · have dA : decide (nk < m) = true := decide_eq_true hA
              have dA2 : decide ((nk : Int) < (m : Int)) = true := decide_eq_true (by omega)
              have hcE : cE b k = (180, pl) := by rw [HCE3.out, if_pos ⟨h0, .inl hA⟩]
              have hend := HEND.out (by rw [hcE]; simp)
              rw [hcE] at hend
              have HE4 := Lib.hid hend
              clear hcE hend
              go_wp2_with (go_at_call 14; (with_reducible refine (twrong_calls _ _ _).mono ?_); rintro e w9 ⟨b9, rfl, hb9, hr9, hbe9⟩; (have HR9 := Lib.hid hr9); (have HBE9 := Lib.hid hbe9); clear hr9 hbe9)
              go_ret
              refine ⟨K4.out.trans (Kept.none_of_below HBE9.out) (fun _ h => h.elim), .inl ⟨by rw [HE4.out]; simp, _, rfl, ?_⟩⟩
              rw [HE4.out]
              exact .inr ⟨_, by simp, rfl, HR9.out⟩
            · have dA : decide (nk < m) = false := decide_eq_false hA
              have dA2 : decide ((nk : Int) < (m : Int)) = false := decide_eq_false (by omega)
              by_cases hm0 : m = 0
              · have dm : ((m : Int) == 0) = true := by simp [hm0]
                have dm2 : decide (m = 0) = true := decide_eq_true hm0
                have dm3 : (m == 0) = true := by simp [hm0]
                by_cases hn0 : nk = 0
                · have dn : ((nk : Int) == 0) = true := by simp [hn0]
                  have dn2 : decide (nk = 0) = true := decide_eq_true hn0
                  have dn3 : (nk == 0) = true := by simp [hn0]
                  have HP : ¬ (0 < k ∧ (nk < m ∨ decide (m = 0) ≠ decide (nk = 0))) := fun ⟨_, h⟩ => by
                    rcases h with h | h
                    · exact hA h
                    · rw [dm2, dn2] at h; exact h rfl
                  have HP := Lib.hid HP
                  clear hm0 hn0 hm
                  have hcE : (cE b k).1 = 0 := by rw [HCE3.out, if_neg HP.out]
                  have hgo := HGO.out hcE
                  have HG4 := Lib.hid hgo
                  clear hcE hgo
                  go_wp2_with fail
                  exact ⟨⟨k + 1, by go_num, by omega, HG4.out, HR4.out, HC4.out, K4.out⟩, by simp [intOf]; omega⟩
                · have dn : ((nk : Int) == 0) = false := by simp [hn0]
                  have dn2 : decide (nk = 0) = false := decide_eq_false hn0
                  have dn3 : (nk == 0) = false := by simp [hn0]
                  have HP : 0 < k ∧ (nk < m ∨ decide (m = 0) ≠ decide (nk = 0)) := ⟨h0, .inr (by rw [dm2, dn2]; decide)⟩
                  have HP := Lib.hid HP
                  clear hm0 hn0 hm
                  have hcE : cE b k = (180, pl) := by rw [HCE3.out, if_pos HP.out]
                  have hend := HEND.out (by rw [hcE]; simp)
                  rw [hcE] at hend
                  have HE4 := Lib.hid hend
                  clear hcE hend
                  go_wp2_with (go_at_call 14; (with_reducible refine (twrong_calls _ _ _).mono ?_); rintro e w9 ⟨b9, rfl, hb9, hr9, hbe9⟩; (have HR9 := Lib.hid hr9); (have HBE9 := Lib.hid hbe9); clear hr9 hbe9)
                  go_ret
                  refine ⟨K4.out.trans (Kept.none_of_below HBE9.out) (fun _ h => h.elim), .inl ⟨by rw [HE4.out]; simp, _, rfl, ?_⟩⟩
                  rw [HE4.out]
                  exact .inr ⟨_, by simp, rfl, HR9.out⟩
              · have dm : ((m : Int) == 0) = false := by simp [hm0]
                have dm2 : decide (m = 0) = false := decide_eq_false hm0
                have dm3 : (m == 0) = false := by simp [hm0]
                by_cases hn0 : nk = 0
                · have dn : ((nk : Int) == 0) = true := by simp [hn0]
                  have dn2 : decide (nk = 0) = true := decide_eq_true hn0
                  have dn3 : (nk == 0) = true := by simp [hn0]
                  have HP : 0 < k ∧ (nk < m ∨ decide (m = 0) ≠ decide (nk = 0)) := ⟨h0, .inr (by rw [dm2, dn2]; decide)⟩
                  have HP := Lib.hid HP
                  clear hm0 hn0 hm
                  have hcE : cE b k = (180, pl) := by rw [HCE3.out, if_pos HP.out]
                  have hend := HEND.out (by rw [hcE]; simp)
                  rw [hcE] at hend
                  have HE4 := Lib.hid hend
                  clear hcE hend
                  go_wp2_with (go_at_call 14; (with_reducible refine (twrong_calls _ _ _).mono ?_); rintro e w9 ⟨b9, rfl, hb9, hr9, hbe9⟩; (have HR9 := Lib.hid hr9); (have HBE9 := Lib.hid hbe9); clear hr9 hbe9)
                  go_ret
                  refine ⟨K4.out.trans (Kept.none_of_below HBE9.out) (fun _ h => h.elim), .inl ⟨by rw [HE4.out]; simp, _, rfl, ?_⟩⟩
                  rw [HE4.out]
                  exact .inr ⟨_, by simp, rfl, HR9.out⟩
                · have dn : ((nk : Int) == 0) = false := by simp [hn0]
                  have dn2 : decide (nk = 0) = false := decide_eq_false hn0
                  have dn3 : (nk == 0) = false := by simp [hn0]
                  have HP : ¬ (0 < k ∧ (nk < m ∨ decide (m = 0) ≠ decide (nk = 0))) := fun ⟨_, h⟩ => by
                    rcases h with h | h
                    · exact hA h
                    · rw [dm2, dn2] at h; exact h rfl
                  have HP := Lib.hid HP
                  clear hm0 hn0 hm
                  have hcE : (cE b k).1 = 0 := by rw [HCE3.out, if_neg HP.out]
                  have hgo := HGO.out hcE
                  have HG4 := Lib.hid hgo
                  clear hcE hgo
                  go_wp2_with fail
                  exact ⟨⟨k + 1, by go_num, by omega, HG4.out, HR4.out, HC4.out, K4.out⟩, by simp [intOf]; omega⟩
          · have dk : decide (0 < k) = false := decide_eq_false h0
            have hcE : (cE b k).1 = 0 := by rw [HCE3.out, if_neg (fun h => h0 h.1)]
            have hgo := HGO.out hcE
            have HG4 := Lib.hid hgo
            clear hcE hgo
            go_wp2_with fail
            exact ⟨⟨k + 1, by go_num, by omega, HG4.out, HR4.out, HC4.out, K4.out⟩, by simp [intOf]; omega⟩
      · have e1 : (er != 0) = true := by simp [he]
        have hcE : cE b k = (er, pl) := by rw [HCE.out, if_pos he]
        have hend := HEND.out (by rw [hcE]; exact he)
        rw [hcE] at hend
        have HE4 := Lib.hid hend
        have HE := Lib.hid he
        clear hcE hend he
        go_wp2_with (first
          | (go_at_call 13; refine HAT.out.mono ?_; rintro e w1 ⟨rfl, rfl⟩)
          | (go_at_call 25; refine HV.out.mono ?_; rintro e w2 ⟨rfl, hC2, k2⟩; (have HC2 := Lib.hid hC2); (have K2 := Lib.hid (HKP.out.trans k2 (fun i hi => .inl (.inr hi)))); clear hC2 k2)
          | (go_at_call 26; refine (err_calls _ c a cap _ _ _ HC2.out).mono ?_; rintro e w3 ⟨rfl, rfl⟩)
          | (go_at_call 14; (with_reducible refine (twrong_calls _ _ _).mono ?_); rintro e w9 ⟨b9, rfl, hb9, hr9, hbe9⟩; (have HR9 := Lib.hid hr9); (have HBE9 := Lib.hid hbe9); clear hr9 hbe9))
        go_ret
        refine ⟨K2.out.trans (Kept.none_of_below HBE9.out) (fun _ h => h.elim), .inl ⟨by rw [HE4.out]; exact HE.out, _, rfl, ?_⟩⟩
        rw [HE4.out]
        exact .inr ⟨_, HE.out, rfl, HR9.out⟩
    · have hk44 : k = 4 := by omega
      have hcn := HCN.out
      have hrow := HROW.out
      have hcur := HCUR.out
      rw [hk44] at hcn hrow hcur
      have HFIN := Lib.hid (And.intro hcn (And.intro hrow hcur))
      clear hk44 hcn hrow hcur
      go_wp2_with fail
      go_ret
      exact ⟨HKP.out, .inr ⟨HFIN.out.1, rfl, HFIN.out.2.1, HFIN.out.2.2⟩⟩
end Go.Proofs.YtgajpekolamjbaaDoor
