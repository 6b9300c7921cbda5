/- TvO TvG TvJ TvH, laid as one. -/
import Derived.Test.YtgajpekolamjbaaTvE
import Derived.Laws.Tables
set_option linter.unusedVariables false
set_option linter.unusedSimpArgs false
/- tree.Open of any bytes. -/
namespace Go.Proofs.Ytgajpekolamjbaa
open Go Go.RowKit Go.Tk
/-- What Open says: View, then the levels, one by one. -/
def opT (b : List UInt8) (xs ys : Nat → Nat) : Nat → Int × Nat
  | 0 => vwE b
  | k + 1 => if (opT b xs ys k).1 ≠ 0 then opT b xs ys k else lkE b k (xs k) (ys k)
/-- What is known of the levels' vectors. -/
def opU (b : List UInt8) (xs ys : Nat → Nat) : Prop := ∀ k, k < 4 → (opT b xs ys k).1 = 0 → lkU b k → OpenR (tB b k) (xs k) (ys k)
theorem op_ext {b : List UInt8} {xs ys xs' ys' : Nat → Nat} : ∀ {k : Nat}, (∀ i, i < k → xs i = xs' i ∧ ys i = ys' i) → opT b xs ys k = opT b xs' ys' k
  | 0, _ => rfl
  | k + 1, h => by
    have h1 := op_ext (b := b) (k := k) (fun i hi => h i (by omega))
    have h2 := h k (by omega)
    simp only [opT]
    rw [h1, h2.1, h2.2]
theorem op_stop {b : List UInt8} {xs ys : Nat → Nat} {k j : Nat} (h : (opT b xs ys k).1 ≠ 0) (hj : k ≤ j) : opT b xs ys j = opT b xs ys k := by
  induction j with
  | zero => have : k = 0 := by omega
            subst this; rfl
  | succ j ih =>
    by_cases hk : k = j + 1
    · subst hk; rfl
    · have := ih (by omega)
      simp only [opT]
      rw [this, if_pos h]
/-- A level more. -/
def upF (f : Nat → Nat) (k x : Nat) (i : Nat) : Nat := if i = k then x else f i
theorem upF_at (f : Nat → Nat) (k x : Nat) : upF f k x k = x := if_pos rfl
theorem upF_ne (f : Nat → Nat) {k x i : Nat} (h : i ≠ k) : upF f k x i = f i := if_neg h
theorem op_up {b : List UInt8} {xs ys : Nat → Nat} {k x y : Nat} (h : (opT b xs ys k).1 = 0) : opT b (upF xs k x) (upF ys k y) (k + 1) = lkE b k x y := by
  simp only [opT]
  rw [op_ext (xs' := xs) (ys' := ys) (fun i hi => ⟨upF_ne _ (by omega), upF_ne _ (by omega)⟩), if_neg (by simp [h]), upF_at, upF_at]
/-- The levels before k. -/
def opK (b : List UInt8) (xs ys : Nat → Nat) (k : Nat) : Prop := (opT b xs ys k).1 = 0 ∧ ∀ j, j < k → lkU b j → OpenR (tB b j) (xs j) (ys j)
theorem opK.next {b : List UInt8} {xs ys : Nat → Nat} {k x y : Nat} (h : opK b xs ys k) (hx : lkU b k → OpenR (tB b k) x y) (h0 : (lkE b k x y).1 = 0) : opK b (upF xs k x) (upF ys k y) (k + 1) := by
  refine ⟨by rw [op_up h.1]; exact h0, fun j hj hu => ?_⟩
  by_cases hk : j = k
  · subst hk; rw [upF_at, upF_at]; exact hx hu
  · rw [upF_ne _ hk, upF_ne _ hk]; exact h.2 j (by omega) hu
theorem opK.fin {b : List UInt8} {xs ys : Nat → Nat} (h : opK b xs ys 4) : opU b xs ys := fun k hk _ hu => h.2 k hk hu
theorem opK.bad {b : List UInt8} {xs ys : Nat → Nat} {k x y : Nat} (h : opK b xs ys k) (hx : lkU b k → OpenR (tB b k) x y) (h0 : (lkE b k x y).1 ≠ 0) (hk : k < 4) : opU b (upF xs k x) (upF ys k y) ∧ opT b (upF xs k x) (upF ys k y) 4 = lkE b k x y := by
  have h1 : opT b (upF xs k x) (upF ys k y) (k + 1) = lkE b k x y := op_up h.1
  have h2 := fun {j : Nat} (hj : k + 1 ≤ j) => op_stop (b := b) (xs := upF xs k x) (ys := upF ys k y) (k := k + 1) (j := j) (by rw [h1]; exact h0) hj
  refine ⟨fun j hj hz hu => ?_, by rw [h2 (by omega), h1]⟩
  by_cases hjk : j = k
  · subst hjk; rw [upF_at, upF_at]; exact hx hu
  by_cases hlt : j < k
  · rw [upF_ne _ hjk, upF_ne _ hjk]; exact h.2 j hlt hu
  · rw [h2 (by omega), h1] at hz; exact absurd hz h0
/-- What Open hands back. -/
def OpenO (w : World) (b : List UInt8) (a : Option Addr) (cap : Nat) (e : Ending) (w' : World) : Prop := ∃ xs ys, opU b xs ys ∧ OpenT w b a cap (opT b xs ys 4) e w'
set_option maxRecDepth 100000 in
set_option maxHeartbeats 3000000 in
theorem topen_calls (w : World) (b : List UInt8) (a : Option Addr) (cap : Nat) (hs : SlI .u8 w a b.length cap (nums b)) (hn : a = none → cap = 0) (ha : ∀ x, a = some x → x.block < w.heap.size) (hlen : b.length ≤ 140737488355328) :
    Calls Try.prog 16 #[.slice a b.length cap] w (OpenO w b a cap) := by
  have hv := tview_calls w a cap b hs hn ha hlen
  have HV := Lib.hid hv
  clear hv hs hn ha
  go_enter Try.func16, Try.ntmps16
  by_cases he : (vwE b).1 = 0
  rotate_left
  · have HE := Lib.hid he
    clear he
    go_wp2_with (go_at_call 17; (with_reducible refine HV.out.mono ?_); rintro e w1 ⟨hb1, h1⟩; obtain ⟨v, rfl, hev⟩ := h1.elim (fun h => h.2) (fun h => absurd h.1 HE.out); obtain ⟨b9, rfl⟩ := hev.some HE.out; (have HB1 := Lib.hid hb1); (have HEV := Lib.hid hev); clear h1 hb1 hev)
    go_ret2
    refine ⟨fun _ => 0, fun _ => 0, fun k _ hz _ => ?_, HB1.out, .inl ⟨?_, _, rfl, ?_⟩⟩
    · have h := op_stop (b := b) (xs := fun _ => 0) (ys := fun _ => 0) (k := 0) (j := k) HE.out (Nat.zero_le _)
      rw [h] at hz
      exact absurd hz HE.out
    · rw [op_stop (k := 0) HE.out (Nat.zero_le _)]; exact HE.out
    · rw [op_stop (k := 0) HE.out (Nat.zero_le _)]; exact HEV.out
  · have HE := Lib.hid he
    clear he
    go_wp2_with (go_at_call 17; (with_reducible refine HV.out.mono ?_); rintro e w1 ⟨hb1, h1⟩; obtain ⟨gd, vp, hgd, rfl, hT⟩ := h1.elim (fun h => absurd HE.out h.1) (fun h => h.2); (have HB1 := Lib.hid hb1); (have HT := Lib.hid hT); (have hz1 := hb1.size); clear h1 hb1 hT)
    go_loopw [16] (fun iv wr => ∃ (k : Nat) (xs ys : Nat → Nat), iv = .int .i64 (k : Nat) ∧ k ≤ 4 ∧ opK b xs ys k ∧ Below w1.heap.size w1 wr) (fun iv _ => 4 - (intOf iv).toNat)
    case atStart => exact ⟨0, fun _ => 0, fun _ => 0, rfl, by omega, ⟨HE.out, fun j hj => absurd hj (by omega)⟩, Below.refl _ _⟩
    case round =>
      rename World => wr
      obtain ⟨k, xs, ys, rfl, hk, hK, hbr⟩ := hrel
      have HK := Lib.hid hK
      have HBR := Lib.hid hbr
      have hzr := hbr.size
      clear hK hbr
      by_cases hk4 : k < 4
      rotate_left
      · obtain rfl : k = 4 := by omega
        go_wp2_with fail
        go_ret2
        exact ⟨xs, ys, HK.out.fin, HB1.out.trans (HBR.out.mono hz1), .inr ⟨HK.out.1, gd, vp, hgd, rfl, HT.out.below HBR.out⟩⟩
      · have hlk := look_calls wr gd b a cap vp (HT.out.below HBR.out) hlen k hk4 (k * 8) rfl
        have HL := Lib.hid hlk
        clear hlk
        go_upto_region 8 with (go_at_call 52; (with_reducible refine HL.out.mono ?_); rintro e w2 ⟨hb2, x, y, v, hx, rfl, hev⟩; (have HB2 := Lib.hid (HBR.out.trans (hb2.mono hzr))); (have HX := Lib.hid hx); (have HEV := Lib.hid hev); clear hb2 hx hev)
        by_cases h0 : (lkE b k x y).1 = 0
        · have hv : v = .nilIface := by have := HEV.out; rw [h0] at this; exact this.none
          subst hv
          have HKN := Lib.hid (HK.out.next HX.out h0)
          clear h0
          go_wp2_with fail
          exact ⟨⟨k + 1, _, _, by go_num, by omega, HKN.out, HB2.out⟩, by simp [intOf]; omega⟩
        · obtain ⟨b9, rfl⟩ := HEV.out.some h0
          have HBAD := Lib.hid (HK.out.bad HX.out h0 hk4)
          have H0 := Lib.hid h0
          clear h0
          go_wp2_with fail
          go_ret2
          exact ⟨_, _, HBAD.out.1, HB1.out.trans (HB2.out.mono hz1), .inl ⟨by rw [HBAD.out.2]; exact H0.out, _, rfl, by rw [HBAD.out.2]; exact HEV.out⟩⟩
end Go.Proofs.Ytgajpekolamjbaa
/- A viewed tree: its cells, numbers and ranks; Len. -/
namespace Go.Proofs.Ytgajpekolamjbaa
open Go Go.RowKit Go.Tk
section
variable {w : World} {gd : Nat} {b : List UInt8} {a : Option Addr} {cap : Nat} {vp : Nat → Option Addr}
theorem TreeM.lv (hT : TreeM w gd b a cap vp) : (lvE b 4).1 = 0 := by
  have h := hT.ok
  unfold vwE at h
  by_cases h1 : (lvE b 4).1 ≠ 0
  · rw [if_pos h1] at h; rw [h]
  · exact Classical.not_not.1 h1
theorem TreeM.nk (hT : TreeM w gd b a cap vp) {k : Nat} (hk : k < 4) : tN b k ≤ 1048576 := ((lv_ok hT.lv).2.1 k hk).le
theorem TreeM.wd (hT : TreeM w gd b a cap vp) {k : Nat} (hk : k < 4) : tW b k ≤ 23 := ((lv_ok hT.lv).2.2 k hk).wd
theorem TreeM.fit (hT : TreeM w gd b a cap vp) {k : Nat} (hk : k < 4) : tA b (k + 1) ≤ b.length := ((lv_ok hT.lv).2.2 k hk).en
theorem TreeM.at (hT : TreeM w gd b a cap vp) {k p f : Nat} (hk : k < 4) (hp : p = k * 8) (hf : f < 8) : w.cell? ⟨gd, p + f, none⟩ = some (lvc b a cap (vp k) k f) := by
  have := RowC.cell hT.row (i := k * 8 + f) (by omega)
  rw [hp, this]
  unfold tvC
  rw [if_pos (by omega), show (k * 8 + f) / 8 = k by omega, show (k * 8 + f) % 8 = f by omega]
theorem TreeM.c0 (hT : TreeM w gd b a cap vp) {k p : Nat} (hk : k < 4) (hp : p = k * 8) : w.cell? ⟨gd, p, none⟩ = some (.int .i64 (tN b k : Nat)) := hT.at hk hp (f := 0) (by omega)
theorem TreeM.c7 (hT : TreeM w gd b a cap vp) {k p : Nat} (hk : k < 4) (hp : p = k * 8) : w.cell? ⟨gd, p + 7, none⟩ = some (.pointer (vp k)) := hT.at hk hp (f := 7) (by omega)
theorem TreeM.sp (hT : TreeM w gd b a cap vp) {k : Nat} (hk : k < 4) : SlI .u8 w (slA a cap (tA b k + 1)) (tE b k - (tA b k + 1)) (cap - (tA b k + 1)) (nums (tP b k)) := by
  have h1 := tX_ge b k
  have h2 := hT.fit hk
  have h3 := tE_ge b k
  obtain ⟨pl, hpl⟩ : ∃ pl, pl = tE b k - (tA b k + 1) := ⟨_, rfl⟩
  have := hT.sl.cut (tA b k + 1) pl (by rw [hpl]; omega)
  rw [show tA b k + 1 + pl - (tA b k + 1) = pl by omega] at this
  unfold tP slA
  rw [← hpl]
  have e : ((nums b).drop (tA b k + 1)).take pl = nums ((b.drop (tA b k + 1)).take pl) := by simp [nums, List.map_drop, List.map_take]
  rw [← e]; exact this
theorem tnum_calls (hT : TreeM w gd b a cap vp) {k p : Nat} (hk : k < 4) (hp : p = k * 8) (i : Nat) (hi : i ≤ 2097152) :
    Calls Try.prog 62 #[.pointer (some ⟨gd, p, none⟩), .int .i64 (i : Nat)] w fun e w' => e = .returned (.int .i64 (tM b k i : Nat)) ∧ ∃ m, w' = w.drewN m :=
  tnumber_calls w gd p (tW b k) _ _ _ (tP b k) (hT.at hk hp (f := 1) (by omega)) (hT.at hk hp (f := 5) (by omega)) (hT.sp hk) (hT.wd hk) i hi
/-- Rank and Select of a level's vector. -/
def rkT (b : List UInt8) (k : Nat) (i : Int) : Nat := rankV (tB b k) (tN b k) (tN b (k - 1)) i
def slT (b : List UInt8) (k : Nat) (i : Int) : Int := selV (fun j => rkT b k (j : Nat)) (tN b k) i (tN b (k - 1))
theorem TreeM.vc (hT : TreeM w gd b a cap vp) {k : Nat} (hk : k < 4) (hv : tV b k = true) : ∃ gv, vp k = some ⟨gv, 0, none⟩ ∧ VecAt w gv (slA a cap (tE b k)) (cap - tE b k) (tB b k) (tN b k) (tN b (k - 1)) := (hT.vec k hk).1 hv
theorem TreeM.vn (hT : TreeM w gd b a cap vp) {k : Nat} (hk : k < 4) (hv : tV b k = false) : vp k = none := (hT.vec k hk).2 hv
theorem tlen_calls (hT : TreeM w gd b a cap vp) : Calls Try.prog 22 #[.pointer (some ⟨gd, 0, none⟩)] w fun e w' => e = .returned (.int .i64 (tN b 3 : Nat)) ∧ w' = w := by
  have c0 := hT.c0 (k := 3) (p := 24) (by omega) rfl
  generalize tN b 3 = N at c0 ⊢
  clear hT
  go_enter Try.func22, Try.ntmps22
  go_wp2_with fail
  go_ret
  exact ⟨rfl, rfl⟩
end
end Go.Proofs.Ytgajpekolamjbaa
/- children and start of a viewed tree of any bytes. -/
namespace Go.Proofs.Ytgajpekolamjbaa
open Go Go.RowKit Go.Tk
/-- Select and one. -/
def slN (b : List UInt8) (k : Nat) (i : Nat) : Nat := (slT b k (i : Nat) + 1).toNat
theorem slN_eq (b : List UInt8) (k i : Nat) : slT b k (i : Nat) = (slN b k i : Nat) - 1 := by
  have h : -1 ≤ slT b k (i : Nat) := by unfold slT selV; split <;> omega
  unfold slN; omega
theorem slN_le (b : List UInt8) (k i : Nat) : slN b k i ≤ tN b k + 1 := by
  have h : slT b k (i : Nat) ≤ tN b k := by
    unfold slT selV
    split
    · omega
    · have := (srch_bd (fun j => ((rkT b k (j : Nat) : Nat) : Int)) (i : Nat) (tN b k) 0 (tN b k - 1) (Nat.zero_le _)).2
      omega
  unfold slN; omega
/-- The entries below an entry. -/
def chL (b : List UInt8) (k j : Nat) : Nat := if tV b (k + 1) = false then 0 else if 0 < j then slN b (k + 1) (j - 1) else 0
def chH (b : List UInt8) (k j : Nat) : Nat := if tV b (k + 1) = false then 0 else max (chL b k j) (slN b (k + 1) j)
/-- The first quad below an entry: how many levels are left. -/
def stR (b : List UInt8) : Nat → Nat → Nat
  | 0, j => min j (tN b 3)
  | m + 1, j => if tN b (2 - m) ≤ j then tN b 3 else stR b m (chL b (2 - m) j)
theorem chL_le (b : List UInt8) (k j : Nat) : chL b k j ≤ tN b (k + 1) + 1 := by
  unfold chL; split
  · omega
  split
  · exact slN_le _ _ _
  · omega
theorem chH_le (b : List UInt8) (k j : Nat) : chH b k j ≤ tN b (k + 1) + 1 := by
  have h1 := chL_le b k j
  have h2 := slN_le b (k + 1) j
  unfold chH; split <;> omega
section
variable {w : World} {gd : Nat} {b : List UInt8} {a : Option Addr} {cap : Nat} {vp : Nat → Option Addr}
set_option maxRecDepth 100000 in
theorem tchild_calls (hT : TreeM w gd b a cap vp) (k : Nat) (hk : k < 3) (j : Nat) (hj : j ≤ 2097152) :
    Calls Try.prog 66 #[.pointer (some ⟨gd, 0, none⟩), .int .i64 (k : Nat), .int .i64 (j : Nat)] w fun e w' => e = .returned (.tuple #[.int .i64 (chL b k j : Nat), .int .i64 (chH b k j : Nat)]) ∧ ∃ q, w' = w.drewN q := by
  obtain ⟨k1, hk1⟩ : ∃ k1, k1 = k + 1 := ⟨_, rfl⟩
  have hkk : (k : Int) + 1 = (k1 : Nat) := by omega
  have hk4 : k1 < 4 := by omega
  have c7 := hT.c7 hk4 rfl
  have hL : chL b k j = if tV b k1 = false then 0 else if 0 < j then slN b k1 (j - 1) else 0 := by rw [hk1]; rfl
  have hH : chH b k j = if tV b k1 = false then 0 else max (chL b k j) (slN b k1 j) := by rw [hk1]; rfl
  obtain ⟨L, hLL⟩ : ∃ L, L = chL b k j := ⟨_, rfl⟩
  obtain ⟨H, hHH⟩ : ∃ H, H = chH b k j := ⟨_, rfl⟩
  rw [← hLL] at hL hH ⊢
  rw [← hHH] at hH ⊢
  cases hv : tV b k1 with
  | false =>
    rw [hT.vn hk4 hv] at c7
    rw [hv] at hL hH
    obtain rfl : L = 0 := hL
    obtain rfl : H = 0 := hH
    clear hLL hHH hT hv hk1
    go_enter Try.func66, Try.ntmps66
    go_wp2_with fail
    go_ret2
    exact ⟨rfl, 0, rfl⟩
  | true =>
    obtain ⟨gv, hgv, hvc⟩ := hT.vc hk4 hv
    have hc7 : ∀ q, (w.drewN q).cell? ⟨gd, k1 * 8 + 7, none⟩ = some (.pointer (some ⟨gv, 0, none⟩)) := fun q => by have := (hT.below (below_drewN (Below.refl _ _) q)).c7 hk4 rfl; rw [hgv] at this; exact this
    have hsel : ∀ (i : Nat) q, i ≤ 2097152 → Calls Try.prog 104 #[.pointer (some ⟨gv, 0, none⟩), .int .i64 (i : Nat)] (w.drewN q) fun e w' => e = .returned (.int .i64 ((slN b k1 i : Nat) - 1)) ∧ ∃ m, w' = (w.drewN q).drewN m := fun i q hi => by
      have := select_calls (hvc.below8 (below_drewN (Below.refl _ w) q)) (i : Nat) (by omega)
      rw [← slN_eq]
      exact this
    rw [hgv] at c7
    rw [hv] at hL hH
    simp only [Bool.true_eq_false, if_false] at hL hH
    have hs2 := hsel j
    have hs3 := hsel (j - 1)
    have hb1 := slN_le b k1 j
    have hb2 := slN_le b k1 (j - 1)
    have hnk := hT.nk hk4
    generalize slN b k1 j = s1 at hs2 hH hb1
    generalize slN b k1 (j - 1) = s0 at hs3 hL hb2
    have HS2 := Lib.hid hs2
    have HS3 := Lib.hid hs3
    have HC7 := Lib.hid hc7
    by_cases hj0 : 0 < j
    · rw [if_pos hj0] at hL
      have HL := Lib.hid hL
      have HH := Lib.hid hH
      obtain ⟨jm, hjm⟩ : ∃ jm, jm = j - 1 := ⟨_, rfl⟩
      have hji : (j : Int) - 1 = (jm : Nat) := by omega
      rw [← hjm] at hs3
      have HS4 := Lib.hid hs3
      have d1 : decide ((0 : Int) < (j : Int)) = true := decide_eq_true (by omega)
      clear hL hH hs2 hs3 HS3 hc7 hsel hv hvc hgv hT hk1 hLL hHH hjm
      go_enter Try.func66, Try.ntmps66
      go_wp2_with fail
      go_at_call 104
      refine (HS4.out 0 (by omega)).mono ?_
      rintro e w1 ⟨rfl, m1, rfl⟩
      have c7' := HC7.out m1
      go_wp2_with fail
      go_at_call 104
      refine (HS2.out m1 hj).mono ?_
      rintro e w2 ⟨rfl, m2, rfl⟩
      go_wp2_with fail
      go_ret2
      refine ⟨?_, m1 + m2, by simp [World.drewN, Nat.add_assoc]⟩
      have e1 : (L : Int) = s0 := by rw [HL.out]
      have e2 : ((H : Nat) : Int) = max (s0 : Int) s1 := by rw [HH.out, HL.out]; omega
      rw [e1, e2]
      rfl
    · rw [if_neg hj0] at hL
      have HL := Lib.hid hL
      have HH := Lib.hid hH
      have d1 : decide ((0 : Int) < (j : Int)) = false := decide_eq_false (by omega)
      clear hL hH hs2 hs3 HS3 hc7 hsel hv hvc hgv hT hk1 hLL hHH
      go_enter Try.func66, Try.ntmps66
      go_wp2_with fail
      go_at_call 104
      refine (HS2.out 0 hj).mono ?_
      rintro e w2 ⟨rfl, m2, rfl⟩
      go_wp2_with fail
      go_ret2
      refine ⟨?_, m2, rfl⟩
      have e1 : (L : Int) = 0 := by rw [HL.out]; rfl
      have e2 : ((H : Nat) : Int) = (s1 : Int) := by rw [HH.out, HL.out]; omega
      rw [e1, e2]
      rfl
set_option maxRecDepth 100000 in
theorem tstart_calls (hT : TreeM w gd b a cap vp) (k : Nat) (hk : k ≤ 3) (j : Nat) (hj : j ≤ 2097152) :
    Calls Try.prog 65 #[.pointer (some ⟨gd, 0, none⟩), .int .i64 (k : Nat), .int .i64 (j : Nat)] w fun e w' => e = .returned (.int .i64 (stR b (3 - k) j : Nat)) ∧ ∃ q, w' = w.drewN q := by
  obtain ⟨S, hS⟩ : ∃ S, S = stR b (3 - k) j := ⟨_, rfl⟩
  rw [← hS]
  have HT := Lib.hid hT
  have HS := Lib.hid hS
  clear hT hS
  go_enter Try.func65, Try.ntmps65
  go_wp2_with fail
  go_loopw [1, 2] (fun kv jv wr => ∃ (k j : Nat), kv = .int .i64 (k : Nat) ∧ jv = .int .i64 (j : Nat) ∧ k ≤ 3 ∧ j ≤ 2097152 ∧ stR b (3 - k) j = S ∧ ∃ q, wr = w.drewN q) (fun kv _ _ => 3 - (intOf kv).toNat)
  case atStart => exact ⟨k, j, rfl, rfl, hk, hj, HS.out.symm, 0, rfl⟩
  case round =>
    rename World => wr
    obtain ⟨k, j, rfl, rfl, hk, hj, hs, q, rfl⟩ := hrel
    have HSS := Lib.hid hs
    have hTq := HT.out.below (below_drewN (Below.refl _ w) q)
    have HTQ := Lib.hid hTq
    have HLEN := Lib.hid (tlen_calls hTq)
    clear hs hTq
    obtain ⟨N3, hN3⟩ : ∃ N3, N3 = tN b 3 := ⟨_, rfl⟩
    have hTL2 := HLEN.out
    rw [← hN3] at hTL2
    have HTL2 := Lib.hid hTL2
    have HN3 := Lib.hid hN3
    clear hTL2 hN3
    by_cases hk3 : k < 3
    rotate_left
    · obtain rfl : k = 3 := by omega
      go_wp2_with ((go_at_call 22; (with_reducible refine HTL2.out.mono ?_); rintro e w2 ⟨rfl, rfl⟩))
      go_ret
      refine ⟨?_, q, rfl⟩
      have e1 : ((S : Nat) : Int) = min (j : Int) N3 := by rw [← HSS.out, HN3.out]; simp only [Nat.sub_self, stR]; omega
      rw [e1]
      rfl
    · obtain ⟨nk, hnk⟩ : ∃ nk, nk = tN b k := ⟨_, rfl⟩
      have hnk2 : nk ≤ 1048576 := by rw [hnk]; exact HT.out.nk (by omega)
      have c0 := HTQ.out.c0 (k := k) (p := k * 8) (by omega) rfl
      rw [← hnk] at c0
      have hst : S = if nk ≤ j then N3 else stR b (3 - (k + 1)) (chL b k j) := by
        rw [← HSS.out, show 3 - k = (2 - k) + 1 by omega, hnk, HN3.out]
        simp only [stR]
        rw [show 2 - (2 - k) = k by omega, show 2 - k = 3 - (k + 1) by omega]
      have HST := Lib.hid hst
      clear hnk hst
      by_cases hle : nk ≤ j
      · have d1 : decide ((nk : Int) ≤ (j : Int)) = true := decide_eq_true (by omega)
        have d2 : decide (nk ≤ j) = true := decide_eq_true hle
        go_wp2_with ((go_at_call 22; (with_reducible refine HTL2.out.mono ?_); rintro e w2 ⟨rfl, rfl⟩))
        go_ret
        exact ⟨by rw [HST.out, if_pos hle]; rfl, q, rfl⟩
      · have d1 : decide ((nk : Int) ≤ (j : Int)) = false := decide_eq_false (by omega)
        have d2 : decide (nk ≤ j) = false := decide_eq_false hle
        have hch := tchild_calls HTQ.out k hk3 j hj
        have hcl : chL b k j ≤ 2097152 := by have h1 := chL_le b k j; have h2 := HT.out.nk (k := k + 1) (by omega); omega
        have HCH := Lib.hid hch
        clear hch
        have HS2 := Lib.hid (show stR b (3 - (k + 1)) (chL b k j) = S by rw [HST.out, if_neg hle])
        go_wp2_with ((go_at_call 66; (with_reducible refine HCH.out.mono ?_); rintro e w2 ⟨rfl, m2, rfl⟩))
        exact ⟨⟨k + 1, chL b k j, by go_num, rfl, by omega, hcl, HS2.out, q + m2, by simp [World.drewN, Nat.add_assoc]⟩, by simp [intOf]; omega⟩
end
end Go.Proofs.Ytgajpekolamjbaa
/- Get of a viewed tree of any bytes. -/
namespace Go.Tk
open Go Go.RowKit
theorem results_rt18 {P : Program} {fn : Func} {p q : Tmp} {ty : TypeId} (h : fn.results = #[.cell p ty, .tmp q]) (tmps : Array Value) (w : World) (g : Nat) (t : TypeId) (cs : Array Value) (fr : Nat × Nat) (d : TypeDesc)
    (hp : tmps.getD p undef = .pointer (some ⟨g, 0, none⟩)) (hg : w.heap[g]? = some (.cells cs t fr))
    (hu : P.underlying ty = some d) (hd : (match d with | .struct _ | .array _ _ => true | _ => false) = true) (hi : (P.info? ty).map (·.size) = some cs.size) :
    (results fn tmps).run P w = .ok (.tuple #[.agg cs, tmps.getD q undef]) w := by
  have hp' : tmps[p]?.getD undef = .pointer (some ⟨g, 0, none⟩) := by simpa using hp
  simp [results, h, hp', asAddr, run_loadVar_row w g t ty cs fr d hg hu hd hi]
end Go.Tk
namespace Go.Proofs.Ytgajpekolamjbaa
open Go Go.RowKit Go.Tk
/-- The numbers of a quad, as Get hands them. -/
def ids (q : Nat → Nat) (i : Nat) : Value := .int .i64 (q i : Nat)
def idZ : Nat → Nat := fun _ => 0
theorem ids_one (q : Nat → Nat) : (rowC 4 (ids q)).all (·.oneCell') = true := by simp [rowC, ids, Value.oneCell', List.range, List.range.loop]
theorem ids_size (q : Nat → Nat) : (rowC 4 (ids q)).size = 4 := by simp [rowC]
theorem idZ_eq : rowC 4 (ids idZ) = #[.int .i64 0, .int .i64 0, .int .i64 0, .int .i64 0] := rfl
/-- Get from a level downwards: how many levels are left, the entry there, what was read. -/
def gR (b : List UInt8) : Nat → Nat → (Nat → Nat) → Option (Nat → Nat)
  | 0, _, q => some q
  | k + 1, i, q => if tN b k ≤ i ∨ (0 < k ∧ tV b k = false) then none else gR b k (if 0 < k then rkT b k i else i) (upF q k (tM b k i))
def getT (b : List UInt8) (i : Int) : Option (Nat → Nat) := if i < 0 ∨ (tN b 3 : Nat) ≤ i then none else gR b 4 i.toNat idZ
/-- What Get hands back. -/
def GetR (w : World) (r : Option (Nat → Nat)) (e : Ending) (w' : World) : Prop :=
  Below w.heap.size w w' ∧ e = .returned (.tuple #[.agg (rowC 4 (ids (r.getD idZ))), .bool r.isSome])
theorem ids_up (q : Nat → Nat) (k x : Nat) : setF (ids q) k (.int .i64 (x : Nat)) = ids (upF q k x) := by
  funext i
  unfold setF ids upF
  split <;> rfl
def z4 (W : World) (g : Nat) : World := (((W.setCell ⟨g, 0, none⟩ (.int .i64 0)).setCell ⟨g, 1, none⟩ (.int .i64 0)).setCell ⟨g, 2, none⟩ (.int .i64 0)).setCell ⟨g, 3, none⟩ (.int .i64 0)
theorem z4_row {W : World} {g : Nat} (h : RowC W g 4 24 (ids idZ)) : RowC (z4 W g) g 4 24 (ids idZ) := by
  have h4 := (((h.set 0 (.int .i64 0)).set 1 (.int .i64 0)).set 2 (.int .i64 0)).set 3 (.int .i64 0)
  have e : setF (setF (setF (setF (ids idZ) 0 (.int .i64 0)) 1 (.int .i64 0)) 2 (.int .i64 0)) 3 (.int .i64 0) = ids idZ := by
    funext i
    unfold setF ids idZ
    repeat (first | rfl | (split))
  rw [e] at h4
  exact h4
theorem z4_below {w W : World} (h : Below w.heap.size w W) : Below w.heap.size w (z4 W w.heap.size) :=
  (((h.setCell (p := ⟨w.heap.size, 0, none⟩) (Nat.le_refl _) _).setCell (p := ⟨w.heap.size, 1, none⟩) (Nat.le_refl _) _).setCell (p := ⟨w.heap.size, 2, none⟩) (Nat.le_refl _) _).setCell (p := ⟨w.heap.size, 3, none⟩) (Nat.le_refl _) _
set_option maxRecDepth 100000 in
set_option maxHeartbeats 3000000 in
theorem tget_calls (w : World) (gd : Nat) (b : List UInt8) (a : Option Addr) (cap : Nat) (vp : Nat → Option Addr) (hT : TreeM w gd b a cap vp) (i : Int) (hi : -9223372036854775808 ≤ i ∧ i ≤ 9223372036854775807) :
    Calls Try.prog 23 #[.pointer (some ⟨gd, 0, none⟩), .int .i64 i] w (GetR w (getT b i)) := by
  have hlt := hT.row.lt
  have HT := Lib.hid hT
  have SZ := Lib.hid Try.sizeIds
  obtain ⟨G, hG⟩ : ∃ G, G = getT b i := ⟨_, rfl⟩
  rw [← hG]
  have HG := Lib.hid hG
  have hB1 : Below w.heap.size w (w.alloc (.cells #[.int .i64 0, .int .i64 0, .int .i64 0, .int .i64 0] 24)) := (Below.refl _ _).alloc (Nat.le_refl _) _
  have hg4 : RowC (w.alloc (.cells #[.int .i64 0, .int .i64 0, .int .i64 0, .int .i64 0] 24)) w.heap.size 4 24 (ids idZ) := heap_alloc_new w (.cells #[.int .i64 0, .int .i64 0, .int .i64 0, .int .i64 0] 24)
  have hz1 : w.heap.size < (w.alloc (.cells #[.int .i64 0, .int .i64 0, .int .i64 0, .int .i64 0] 24)).heap.size := by simp
  clear hG hT
  go_enter Try.func23, Try.ntmps23
  go_upto_region 1 with fail
  generalize w.alloc (.cells #[.int .i64 0, .int .i64 0, .int .i64 0, .int .i64 0] 24) = w1 at hB1 hg4 hz1 ⊢
  have HB1 := Lib.hid hB1
  have HG4 := Lib.hid hg4
  have HTL := Lib.hid (tlen_calls (HT.out.below hB1))
  clear hB1 hg4
  have hfin : ∀ (W : World), Below w.heap.size w W → RowC W w.heap.size 4 24 (ids idZ) → RowC (z4 W w.heap.size) w.heap.size 4 24 (ids idZ) ∧ Below w.heap.size w (z4 W w.heap.size) := fun W h1 h2 => ⟨z4_row h2, z4_below h1⟩
  have FIN := Lib.hid hfin
  clear hfin
  by_cases h0 : i < 0
  · have d0 : decide (i < 0) = true := decide_eq_true h0
    have HGN := Lib.hid (show G = none by rw [HG.out]; unfold getT; exact if_pos (.inl h0))
    obtain ⟨n1, n2⟩ := FIN.out w1 HB1.out HG4.out
    have z0 : w1.cell? ⟨w.heap.size, 0, none⟩ = some (.int .i64 0) := RowC.cell HG4.out (i := 0) (by omega)
    have z1 : w1.cell? ⟨w.heap.size, 1, none⟩ = some (.int .i64 0) := RowC.cell HG4.out (i := 1) (by omega)
    have z2 : w1.cell? ⟨w.heap.size, 2, none⟩ = some (.int .i64 0) := RowC.cell HG4.out (i := 2) (by omega)
    have z3 : w1.cell? ⟨w.heap.size, 3, none⟩ = some (.int .i64 0) := RowC.cell HG4.out (i := 3) (by omega)
    have y0 := RowC.frozen HG4.out 0
    have y1 := RowC.frozen HG4.out 1
    have y2 := RowC.frozen HG4.out 2
    have y3 := RowC.frozen HG4.out 3
    have HN1 := Lib.hid n1
    have HN2 := Lib.hid n2
    clear n1 n2 h0
    go_wp2_with fail
    try simp only [Exit.inBlock, Exit.then]
    refine bodyPost_ret (results_rt18 rfl _ _ w.heap.size _ _ _ _ rfl HN1.out Try.underlying24 rfl SZ.out) rfl ⟨HN2.out, ?_⟩
    rw [HGN.out]; rfl
  · have d0 : decide (i < 0) = false := decide_eq_false h0
    obtain ⟨i0, rfl⟩ : ∃ i0 : Nat, i = i0 := ⟨i.toNat, by omega⟩
    obtain ⟨N3, hN3⟩ : ∃ N3, N3 = tN b 3 := ⟨_, rfl⟩
    have hTL2 := HTL.out
    rw [← hN3] at hTL2
    have HTL2 := Lib.hid hTL2
    have HN3 := Lib.hid hN3
    clear hTL2 hN3
    by_cases h1 : N3 ≤ i0
    · have d1 : decide ((N3 : Int) ≤ (i0 : Int)) = true := decide_eq_true (by omega)
      have d2 : decide (N3 ≤ i0) = true := decide_eq_true h1
      have HGN := Lib.hid (show G = none by rw [HG.out]; unfold getT; exact if_pos (.inr (by rw [← HN3.out]; omega)))
      obtain ⟨n1, n2⟩ := FIN.out w1 HB1.out HG4.out
      have z0 : w1.cell? ⟨w.heap.size, 0, none⟩ = some (.int .i64 0) := RowC.cell HG4.out (i := 0) (by omega)
      have z1 : w1.cell? ⟨w.heap.size, 1, none⟩ = some (.int .i64 0) := RowC.cell HG4.out (i := 1) (by omega)
      have z2 : w1.cell? ⟨w.heap.size, 2, none⟩ = some (.int .i64 0) := RowC.cell HG4.out (i := 2) (by omega)
      have z3 : w1.cell? ⟨w.heap.size, 3, none⟩ = some (.int .i64 0) := RowC.cell HG4.out (i := 3) (by omega)
      have y0 := RowC.frozen HG4.out 0
      have y1 := RowC.frozen HG4.out 1
      have y2 := RowC.frozen HG4.out 2
      have y3 := RowC.frozen HG4.out 3
      have HN1 := Lib.hid n1
      have HN2 := Lib.hid n2
      clear n1 n2 h1 h0
      go_wp2_with ((go_at_call 22; (with_reducible refine HTL2.out.mono ?_); rintro e w2 ⟨rfl, rfl⟩))
      try simp only [Exit.inBlock, Exit.then]
      refine bodyPost_ret (results_rt18 rfl _ _ w.heap.size _ _ _ _ rfl HN1.out Try.underlying24 rfl SZ.out) rfl ⟨HN2.out, ?_⟩
      rw [HGN.out]; rfl
    · have d1 : decide ((N3 : Int) ≤ (i0 : Int)) = false := decide_eq_false (by omega)
      have d2 : decide (N3 ≤ i0) = false := decide_eq_false h1
      have HGN := Lib.hid (show gR b 4 i0 idZ = G by rw [HG.out]; unfold getT; rw [if_neg (by rw [← HN3.out]; omega)]; rfl)
      clear h0 h1
      go_upto_region 4 with (go_at_call 22; (with_reducible refine HTL2.out.mono ?_); rintro e w2 ⟨rfl, rfl⟩)
      rename World => w2
      have hB2 := HB1.out.alloc HB1.out.size (.cells #[.int .i64 0, .int .i64 0, .int .i64 0, .int .i64 0] 24)
      have hg6 : RowC (w2.alloc (.cells #[.int .i64 0, .int .i64 0, .int .i64 0, .int .i64 0] 24)) w2.heap.size 4 24 (ids idZ) := heap_alloc_new w2 (.cells #[.int .i64 0, .int .i64 0, .int .i64 0, .int .i64 0] 24)
      have hg4 : RowC (w2.alloc (.cells #[.int .i64 0, .int .i64 0, .int .i64 0, .int .i64 0] 24)) w.heap.size 4 24 (ids idZ) := (heap_alloc_old w2 _ hz1).trans HG4.out
      generalize w2.alloc (.cells #[.int .i64 0, .int .i64 0, .int .i64 0, .int .i64 0] 24) = w3 at hB2 hg6 hg4 ⊢
      clear HTL2 HTL HG4 HB1
      generalize w2.heap.size = g6 at hz1 hg6 ⊢
      have HB3 := Lib.hid hB2
      have HG6 := Lib.hid hg6
      have HG4 := Lib.hid hg4
      clear hB2 hg6 hg4
      go_wp2_with fail
      go_loopw [1, 7] (fun iv kv wr => ∃ (m i : Nat) (q : Nat → Nat), iv = .int .i64 (i : Nat) ∧ kv = .int .i64 ((m : Int) - 1) ∧ m ≤ 4 ∧ gR b m i q = G ∧ Below w.heap.size w wr ∧ RowC wr w.heap.size 4 24 (ids idZ) ∧ RowC wr g6 4 24 (ids q)) (fun _ kv _ => (intOf kv + 1).toNat)
      case atStart => exact ⟨4, i0, idZ, rfl, rfl, by omega, HGN.out, HB3.out, HG4.out, HG6.out⟩
      case round =>
        rename World => wr
        obtain ⟨m, i, q, rfl, rfl, hm, hgr, hbr, hr4, hr6⟩ := hrel
        have HBR := Lib.hid hbr
        have HR4 := Lib.hid hr4
        have HR6 := Lib.hid hr6
        have HGR := Lib.hid hgr
        clear hbr hr4 hr6 hgr HGN HB3 HG6 HG4
        cases m with
        | zero =>
          have HGS := Lib.hid (show G = some q from HGR.out.symm)
          have HSQ := Lib.hid (show (Try.prog.info? 24).map (·.size) = some (rowC 4 (ids q)).size by rw [ids_size]; exact SZ.out)
          have n1 := setRow_heap wr w.heap.size _ (rowC 4 (ids q)) _ _ HR4.out
          have n2 := below_setRow HBR.out (Nat.le_refl w.heap.size) (rowC 4 (ids q))
          have HN1 := Lib.hid n1
          have HN2 := Lib.hid n2
          clear n1 n2
          go_wp2_with (first
            | (refine wpList_load_row rfl 24 _ rfl g6 rfl _ (rowC 4 (ids q)) _ _ HR6.out Try.underlying24 rfl HSQ.out ?_)
            | (refine wpList_store_row rfl 24 _ _ rfl w.heap.size (rowC 4 (ids q)) rfl rfl _ _ HR4.out HSQ.out (by rw [ids_size, ids_size]) (ids_one q) ?_))
          try simp only [Exit.inBlock, Exit.then]
          refine bodyPost_ret (results_rt18 rfl _ _ w.heap.size _ _ _ _ rfl HN1.out Try.underlying24 rfl HSQ.out) rfl ⟨HN2.out, ?_⟩
          rw [HGS.out]; rfl
        | succ k =>
          rw [show ((k + 1 : Nat) : Int) - 1 = (k : Nat) by omega]
          have hk4 : k < 4 := by omega
          obtain ⟨nk, hnk⟩ : ∃ nk, nk = tN b k := ⟨_, rfl⟩
          have c0 := (HT.out.below HBR.out).c0 hk4 rfl
          rw [← hnk] at c0
          have HNK := Lib.hid hnk
          have hnk2 : nk ≤ 1048576 := by rw [hnk]; exact HT.out.nk hk4
          clear hnk
          by_cases hik : nk ≤ i
          · have d1 : decide ((nk : Int) ≤ (i : Int)) = true := decide_eq_true (by omega)
            have d2 : decide (nk ≤ i) = true := decide_eq_true hik
            have HGN := Lib.hid (show G = none from by rw [← HGR.out]; simp only [gR]; rw [if_pos (.inl (by rw [← HNK.out]; exact hik))])
            obtain ⟨n1, n2⟩ := FIN.out wr HBR.out HR4.out
            have z0 : wr.cell? ⟨w.heap.size, 0, none⟩ = some (.int .i64 0) := RowC.cell HR4.out (i := 0) (by omega)
            have z1 : wr.cell? ⟨w.heap.size, 1, none⟩ = some (.int .i64 0) := RowC.cell HR4.out (i := 1) (by omega)
            have z2 : wr.cell? ⟨w.heap.size, 2, none⟩ = some (.int .i64 0) := RowC.cell HR4.out (i := 2) (by omega)
            have z3 : wr.cell? ⟨w.heap.size, 3, none⟩ = some (.int .i64 0) := RowC.cell HR4.out (i := 3) (by omega)
            have y0 := RowC.frozen HR4.out 0
            have y1 := RowC.frozen HR4.out 1
            have y2 := RowC.frozen HR4.out 2
            have y3 := RowC.frozen HR4.out 3
            have HN1 := Lib.hid n1
            have HN2 := Lib.hid n2
            clear n1 n2
            go_wp2_with fail
            try simp only [Exit.inBlock, Exit.then]
            refine bodyPost_ret (results_rt18 rfl _ _ w.heap.size _ _ _ _ rfl HN1.out Try.underlying24 rfl SZ.out) rfl ⟨HN2.out, ?_⟩
            rw [HGN.out]; rfl
          · have d1 : decide ((nk : Int) ≤ (i : Int)) = false := decide_eq_false (by omega)
            have d2 : decide (nk ≤ i) = false := decide_eq_false hik
            have HNUM := Lib.hid (tnum_calls (HT.out.below HBR.out) hk4 rfl i (by omega))
            by_cases hk0 : 0 < k
            rotate_left
            · have d3 : decide ((0 : Int) < (k : Int)) = false := decide_eq_false (by omega)
              have d4 : decide (0 < k) = false := decide_eq_false hk0
              have HG2 := Lib.hid (show gR b k i (upF q k (tM b k i)) = G by rw [← HGR.out]; simp only [gR]; rw [if_neg (by rw [← HNK.out]; omega), if_neg hk0])
              go_upto_region 11 with (go_at_call 62; (with_reducible refine HNUM.out.mono ?_); rintro e w5 ⟨rfl, m5, hm5⟩; (have HB5 := Lib.hid (show Below w.heap.size w w5 by rw [hm5]; exact below_drewN HBR.out m5)); (have HR5 := Lib.hid (show RowC w5 w.heap.size 4 24 (ids idZ) from (by rw [hm5]; exact HR4.out))); (have HQ5 := Lib.hid (show RowC w5 g6 4 24 (ids q) from (by rw [hm5]; exact HR6.out))); (have zk := RowC.cell HQ5.out (i := k) hk4); (have yk := RowC.frozen HQ5.out k); clear hm5)
              have hb6 := HB5.out.setCell (p := ⟨g6, k, none⟩) (by show w.heap.size ≤ g6; omega) (.int .i64 (tM b k i : Nat))
              have hr6 : (w5.setCell ⟨g6, k, none⟩ (.int .i64 (tM b k i : Nat))).heap[w.heap.size]? = some (.cells (rowC 4 (ids idZ)) 24 (0, 0)) := (heap_setCell_other w5 _ _ _ (by show w.heap.size ≠ g6; omega)).trans HR5.out
              have hq6 := HQ5.out.set k (.int .i64 (tM b k i : Nat))
              rw [ids_up] at hq6
              generalize w5.setCell ⟨g6, k, none⟩ (.int .i64 (tM b k i : Nat)) = w6 at hb6 hr6 hq6 ⊢
              have HB6 := Lib.hid hb6
              have HR46 := Lib.hid hr6
              have HQ6 := Lib.hid hq6
              clear hb6 hr6 hq6
              go_wp2_with fail
              exact ⟨⟨k, i, _, rfl, rfl, by omega, HG2.out, HB6.out, HR46.out, HQ6.out⟩, by simp [intOf]⟩
            · have d3 : decide ((0 : Int) < (k : Int)) = true := decide_eq_true (by omega)
              have d4 : decide (0 < k) = true := decide_eq_true hk0
              have c7 := (HT.out.below HBR.out).c7 hk4 rfl
              cases hv : tV b k with
              | false =>
                rw [HT.out.vn hk4 hv] at c7
                have HVV := Lib.hid hv
                clear hv
                have HGN := Lib.hid (show G = none from by rw [← HGR.out]; simp only [gR]; rw [if_pos (.inr ⟨hk0, HVV.out⟩)])
                obtain ⟨n1, n2⟩ := FIN.out wr HBR.out HR4.out
                have z0 : wr.cell? ⟨w.heap.size, 0, none⟩ = some (.int .i64 0) := RowC.cell HR4.out (i := 0) (by omega)
                have z1 : wr.cell? ⟨w.heap.size, 1, none⟩ = some (.int .i64 0) := RowC.cell HR4.out (i := 1) (by omega)
                have z2 : wr.cell? ⟨w.heap.size, 2, none⟩ = some (.int .i64 0) := RowC.cell HR4.out (i := 2) (by omega)
                have z3 : wr.cell? ⟨w.heap.size, 3, none⟩ = some (.int .i64 0) := RowC.cell HR4.out (i := 3) (by omega)
                have y0 := RowC.frozen HR4.out 0
                have y1 := RowC.frozen HR4.out 1
                have y2 := RowC.frozen HR4.out 2
                have y3 := RowC.frozen HR4.out 3
                have HN1 := Lib.hid n1
                have HN2 := Lib.hid n2
                clear n1 n2
                go_wp2_with fail
                try simp only [Exit.inBlock, Exit.then]
                refine bodyPost_ret (results_rt18 rfl _ _ w.heap.size _ _ _ _ rfl HN1.out Try.underlying24 rfl SZ.out) rfl ⟨HN2.out, ?_⟩
                rw [HGN.out]; rfl
              | true =>
                obtain ⟨gv, hgv, hvc⟩ := HT.out.vc hk4 hv
                rw [hgv] at c7
                have HG2 := Lib.hid (show gR b k (rkT b k i) (upF q k (tM b k i)) = G by rw [← HGR.out]; simp only [gR]; rw [if_neg (by rw [← HNK.out, hv]; simp; omega), if_pos hk0])
                have hrk : ∀ X, Below w.heap.size w X → Calls Try.prog 63 #[.pointer (some ⟨gv, 0, none⟩), .int .i64 (i : Nat)] X fun e w' => e = .returned (.int .i64 (rkT b k i : Nat)) ∧ ∃ q, w' = X.drewN q := fun X hX => rank_calls (hvc.below8 hX) (i : Nat) (by omega)
                have HRK := Lib.hid hrk
                have hc7 : ∀ X, Below w.heap.size w X → X.cell? ⟨gd, k * 8 + 7, none⟩ = some (.pointer (some ⟨gv, 0, none⟩)) := fun X hX => by have := (HT.out.below hX).c7 hk4 rfl; rw [hgv] at this; exact this
                have HC7 := Lib.hid hc7
                clear hv hgv hvc hrk hc7
                go_wp2_with fail
                go_at_call 62
                refine HNUM.out.mono ?_
                rintro e w5 ⟨rfl, m5, hm5⟩
                have HB5 := Lib.hid (show Below w.heap.size w w5 by rw [hm5]; exact below_drewN HBR.out m5)
                have HR5 := Lib.hid (show RowC w5 w.heap.size 4 24 (ids idZ) from (by rw [hm5]; exact HR4.out))
                have HQ5 := Lib.hid (show RowC w5 g6 4 24 (ids q) from (by rw [hm5]; exact HR6.out))
                have zk := RowC.cell HQ5.out (i := k) hk4
                have yk := RowC.frozen HQ5.out k
                clear hm5
                go_upto_region 11 with fail
                have hb6 := HB5.out.setCell (p := ⟨g6, k, none⟩) (by show w.heap.size ≤ g6; omega) (.int .i64 (tM b k i : Nat))
                have hr6 : (w5.setCell ⟨g6, k, none⟩ (.int .i64 (tM b k i : Nat))).heap[w.heap.size]? = _ := (heap_setCell_other w5 _ _ _ (by show w.heap.size ≠ g6; omega)).trans HR5.out
                have hq6 := HQ5.out.set k (.int .i64 (tM b k i : Nat))
                rw [ids_up] at hq6
                generalize w5.setCell ⟨g6, k, none⟩ (.int .i64 (tM b k i : Nat)) = w6 at hb6 hr6 hq6 ⊢
                have HB6 := Lib.hid hb6
                have HR46 := Lib.hid hr6
                have HQ6 := Lib.hid hq6
                clear hb6 hr6 hq6
                clear c7 c0 zk yk
                have c7 := HC7.out w6 HB6.out
                go_wp2_with ((go_at_call 63; (with_reducible refine (HRK.out _ HB6.out).mono ?_); rintro e w7 ⟨rfl, m7, hm7⟩; (have HB7 := Lib.hid (show Below w.heap.size w w7 by rw [hm7]; exact below_drewN HB6.out m7)); (have HR7 := Lib.hid (show RowC w7 w.heap.size 4 24 (ids idZ) from (by rw [hm7]; exact HR46.out))); (have HQ7 := Lib.hid (show RowC w7 g6 4 24 (ids (upF q k (tM b k i))) from (by rw [hm7]; exact HQ6.out))); clear hm7))
                exact ⟨⟨k, rkT b k i, _, rfl, rfl, by omega, HG2.out, HB7.out, HR7.out, HQ7.out⟩, by simp [intOf]⟩
end Go.Proofs.Ytgajpekolamjbaa
