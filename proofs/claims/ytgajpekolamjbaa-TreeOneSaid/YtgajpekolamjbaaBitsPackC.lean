/- BitsW BitsPackA BitsPackB BitsPackC, laid as one. -/
import Derived.Test.YtgajpekolamjbaaTypes
import Derived.Test.YtgajpekolamjbaaPkP
import Derived.Test.YtgajpekolamjbaaOwnC
import Derived.Test.YtgajpekolamjbaaReg
import Derived.Test.YtgajpekolamjbaaShelf
import Derived.BigQuiet
import Derived.BigRegion
set_option linter.unusedVariables false
set_option linter.unusedSimpArgs false
/- bits.Width and the document's Width. -/
namespace Go.Proofs.Ytgajpekolamjbaa
open Go.RowKit Go.Tk
theorem width_calls (x : Int) (w : World) (h0 : 0 ≤ x) (h1 : x < 18446744073709551616) :
    Calls Try.prog 38 #[.int .u64 x] w fun e w' => e = .returned (.int .i64 (bw x)) ∧ w = w' := by
  go_enter Try.func38, Try.ntmps38
  go_wp2_with (go_at_call 74; refine (Try.bits_Len64 x w h0 (by omega)).mono ?_; rintro e w' ⟨rfl, hw⟩; obtain rfl := hw.symm)
  go_ret
  exact ⟨rfl, rfl⟩
theorem rwidth_calls (x : Int) (w : World) (h0 : 0 ≤ x) (h1 : x < 18446744073709551616) :
    Calls Try.prog 88 #[.int .u64 x] w fun e w' => e = .returned (.int .i64 (bw x)) ∧ w = w' := by
  go_enter Try.func88, Try.ntmps88
  go_wp2
  go_loop [0, 3] (fun n c => ∃ (m k : Int), n = .int .u64 m ∧ c = .int .i64 k ∧ 0 ≤ m ∧ m < 18446744073709551616 ∧ 0 ≤ k ∧ k ≤ 64 ∧ bw x = k + bw m) (fun n _ => (intOf n).toNat)
  case atStart => exact ⟨x, 0, rfl, rfl, h0, h1, by omega, by omega, by omega⟩
  case round =>
    obtain ⟨m, k, rfl, rfl, m0, m1, k0, k1, hb⟩ := hrel
    have HB := Lib.hid hb
    have r1 := bw_range x
    clear hb
    by_cases hm : 0 < m
    · have h2 := bw_half m hm m1
      have r2 := bw_range (m / 2)
      have kk : k < 64 := by have := HB.out; omega
      have H2 := Lib.hid h2
      clear h2 r1 r2
      go_wp2
      go_round
      case rel => exact ⟨m / 2, k + 1, by go_num, by go_num, by omega, by omega, by omega, by omega, by have := HB.out; have := H2.out; omega⟩
      case measure => simp [intOf]; omega
    · have : m = 0 := by omega
      subst this
      go_wp2
      go_ret
      exact ⟨ret_int (by have := HB.out; rw [bw_zero] at this; omega), rfl⟩
end Go.Proofs.Ytgajpekolamjbaa
/- bits.Pack's look at the widths; fits, room. -/
namespace Go.Tk
/-- Is one of the numbers wider than so many bits? -/
def anyW (zs : List Int) (wd : Int) : Bool := zs.any fun x => decide (wd < bw x)
def U64 (zs : List Int) : Prop := ∀ i, i < zs.length → 0 ≤ zs.getD i 0 ∧ zs.getD i 0 < 18446744073709551616
theorem anyW_yes {zs : List Int} {wd : Int} {k : Nat} (hk : k < zs.length) (h : wd < bw (zs.getD k 0)) : anyW zs wd = true := by
  unfold anyW
  rw [List.any_eq_true]
  exact ⟨zs[k], List.getElem_mem hk, by simpa [hk] using h⟩
theorem anyW_no {zs : List Int} {wd : Int} (h : ∀ i, i < zs.length → bw (zs.getD i 0) ≤ wd) : anyW zs wd = false := by
  unfold anyW
  rw [List.any_eq_false]
  intro x hx
  obtain ⟨i, hi, rfl⟩ := List.getElem_of_mem hx
  have := h i hi
  simp [hi] at this ⊢
  exact this
theorem anyW_le {zs : List Int} {wd : Int} (h : anyW zs wd = false) : ∀ i, i < zs.length → bw (zs.getD i 0) ≤ wd := by
  intro i hi
  rcases Int.lt_or_le wd (bw (zs.getD i 0)) with hh | hh
  · rw [anyW_yes hi hh] at h; cases h
  · exact hh
end Go.Tk
namespace Go.Proofs.Ytgajpekolamjbaa
open Go.RowKit Go.Tk
theorem fits_calls (wd : Int) (w : World) : Calls Try.prog 75 #[.int .i64 wd] w fun e w' => e = .returned (.bool (decide (0 ≤ wd ∧ wd ≤ 64))) ∧ w = w' := by
  by_cases h0 : 0 ≤ wd
  · go_enter Try.func75, Try.ntmps75
    go_wp2
    go_ret
    exact ⟨ret_bool (by simp [h0]), rfl⟩
  · go_enter Try.func75, Try.ntmps75
    go_wp2
    go_ret
    exact ⟨ret_bool (by simp; intro; omega), rfl⟩
theorem room_calls (n wd : Int) (w : World) (h0 : 0 ≤ n * wd) (h1 : n * wd ≤ 4611686018427387904) : Calls Try.prog 78 #[.int .i64 n, .int .i64 wd] w fun e w' => e = .returned (.int .i64 ((n * wd + 7) / 8)) ∧ w = w' := by
  go_enter Try.func78, Try.ntmps78
  go_wp2
  go_ret
  exact ⟨rfl, rfl⟩
theorem rroom_calls (n wd : Int) (w : World) (h0 : 0 ≤ n * wd) (h1 : n * wd ≤ 4611686018427387904) : Calls Try.prog 89 #[.int .i64 n, .int .i64 wd] w fun e w' => e = .returned (.int .i64 ((n * wd + 7) / 8)) ∧ w = w' := by
  go_enter Try.func89, Try.ntmps89
  go_wp2
  go_ret
  exact ⟨rfl, rfl⟩
theorem wide_calls (x wd : Int) (b : Nat) (w : World) (h0 : 0 ≤ x) (h1 : x < 18446744073709551616) (hc : w.cell? ⟨b, 0, none⟩ = some (.int .i64 wd)) :
    Calls Try.prog 77 #[.int .u64 x, .pointer (some ⟨b, 0, none⟩)] w fun e w' => e = .returned (.bool (decide (wd < bw x))) ∧ ∃ n, w' = w.drewN n := by
  go_enter Try.func77, Try.ntmps77
  go_wp2_with fail
  go_quiet ((go_at_call 38; exact quiet_eq (width_calls _ _ h0 h1)))
  go_wp2
  go_ret
  exact ⟨rfl, _, rfl⟩
theorem index_calls (w : World) (a : Option Addr) (n c : Nat) (zs : List Int) (h : SlI .u64 w a n c zs) (hu : U64 zs) (wd : Int) (b : Nat) (hc : w.cell? ⟨b, 0, none⟩ = some (.int .i64 wd)) :
    Calls Try.prog 109 #[.slice a n c, .func (.func 77) #[] #[.pointer (some ⟨b, 0, none⟩)]] w fun e w' => ∃ r, e = .returned (.int .i64 r) ∧ (decide (0 ≤ r) = anyW zs wd) ∧ ∃ n, w' = w.drewN n := by
  have l1 := h.len
  have m1 := h.le
  have m2 := h.max
  have L1 := Lib.hid l1
  clear l1
  go_enter Try.func109, Try.ntmps109
  go_wp2
  go_loopw [8] (fun i wr => ∃ k m, k ≤ n ∧ i = .int .i64 (k : Nat) ∧ wr = w.drewN m ∧ ∀ j, j < k → bw (zs.getD j 0) ≤ wd) (fun i _ => n - (intOf i).toNat)
  case atStart => exact ⟨0, 0, Nat.zero_le _, rfl, rfl, fun j hj => by omega⟩
  case round =>
    obtain ⟨k, m, hk, rfl, rfl, ht⟩ := hrel
    have HT := Lib.hid ht
    clear ht
    by_cases hlt : k < n
    · obtain ⟨b1, o1, rfl, e1⟩ := h.cell k hlt
      obtain ⟨u0, u1⟩ := hu k (by rw [L1.out]; exact hlt)
      obtain ⟨x, hx⟩ : ∃ x, x = zs.getD k 0 := ⟨_, rfl⟩
      rw [← hx] at e1 u0 u1
      have HX := Lib.hid hx
      clear hx
      have hcd : (w.drewN m).cell? ⟨b, 0, none⟩ = some (.int .i64 wd) := hc
      by_cases hw : wd < bw x
      · go_wp2_with (go_at_call 77; refine (wide_calls _ _ _ _ u0 u1 hcd).mono ?_; rintro e w' ⟨rfl, m3, rfl⟩)
        go_ret
        exact ⟨_, rfl, by rw [anyW_yes (k := k) (by rw [L1.out]; exact hlt) (by rw [← HX.out]; exact hw)]; simp, _, rfl⟩
      · go_wp2_with (go_at_call 77; refine (wide_calls _ _ _ _ u0 u1 hcd).mono ?_; rintro e w' ⟨rfl, m3, rfl⟩)
        go_roundw
        case rel => exact ⟨k + 1, _, by omega, by go_num, rfl, fun j hj => by
          by_cases e : j = k
          · subst e; rw [← HX.out]; omega
          · exact HT.out j (by omega)⟩
        case measure => simp [intOf]; omega
    · go_wp2
      go_ret
      have := anyW_no (zs := zs) (wd := wd) (fun j hj => HT.out j (by have := L1.out; omega))
      exact ⟨_, rfl, by rw [this]; simp, _, rfl⟩
end Go.Proofs.Ytgajpekolamjbaa
/- bits.Pack. -/
namespace Go.Proofs.Ytgajpekolamjbaa
open Go.RowKit Go.Tk
theorem contains_calls (w : World) (a : Option Addr) (n c : Nat) (zs : List Int) (h : SlI .u64 w a n c zs) (hu : U64 zs) (wd : Int) (b : Nat) (hc : w.cell? ⟨b, 0, none⟩ = some (.int .i64 wd)) :
    Calls Try.prog 76 #[.slice a n c, .func (.func 77) #[] #[.pointer (some ⟨b, 0, none⟩)]] w fun e w' => e = .returned (.bool (anyW zs wd)) ∧ ∃ n, w' = w.drewN n := by
  go_enter Try.func76, Try.ntmps76
  go_wp2_with (go_at_call 109; refine (index_calls _ _ _ _ _ h hu wd b hc).mono ?_; rintro e w' ⟨r, rfl, hr, m, rfl⟩)
  go_ret
  exact ⟨rfl, _, rfl⟩
/-- What Pack of numbers that fit hands back: a row of its own. -/
def PackPost (w : World) (zs : List Int) (wd : Int) (n : Nat) (e : Ending) (w' : World) : Prop :=
  ∃ (d : Nat) (R g : Nat), wd = d ∧ R = (n * d + 7) / 8 ∧ e = .returned (.tuple #[.slice (some ⟨g, 0, none⟩) R R, .int .i64 0]) ∧ Fresh .u8 5 w w' g (packTo zs d R n)
theorem pack_no (w : World) (a : Option Addr) (n c : Nat) (zs : List Int) (h : SlI .u64 w a n c zs) (hu : U64 zs) (wd : Int) (hno : ¬ (0 ≤ wd ∧ wd ≤ 64) ∨ anyW zs wd = true) :
    Calls Try.prog 40 #[.slice a n c, .int .i64 wd] w fun e w' => e = .returned (.tuple #[.slice none 0 0, .int .i64 14]) ∧ Below w.heap.size w w' := by
  have hs : SlI .u64 (w.alloc (.cells #[.int .i64 wd] 3)) a n c zs := h.alloc _
  by_cases hf : 0 ≤ wd ∧ wd ≤ 64
  · have ha : anyW zs wd = true := by rcases hno with h | h; exact absurd hf h; exact h
    have hd : decide (0 ≤ wd ∧ wd ≤ 64) = true := by simpa using hf
    go_enter Try.func40, Try.ntmps40
    go_wp2_with (first
      | (go_at_call 75; refine (fits_calls _ _).mono ?_; rintro e w' ⟨rfl, rfl⟩; rw [hd])
      | (go_at_call 76; refine (contains_calls _ _ _ _ _ hs hu wd w.heap.size (by simp)).mono ?_; rintro e w' ⟨rfl, m, rfl⟩; rw [ha]))
    go_ret2
    exact ⟨rfl, below_drewN ((Below.refl w.heap.size w).alloc (Nat.le_refl _) _) _⟩
  · have hd : decide (0 ≤ wd ∧ wd ≤ 64) = false := by simpa using hf
    go_enter Try.func40, Try.ntmps40
    go_wp2_with (go_at_call 75; refine (fits_calls _ _).mono ?_; rintro e w' ⟨rfl, rfl⟩; rw [hd])
    go_ret2
    exact ⟨rfl, (Below.refl w.heap.size w).alloc (Nat.le_refl _) _⟩
theorem pack_yes (w : World) (a : Option Addr) (n c : Nat) (zs : List Int) (h : SlI .u64 w a n c zs) (hu : U64 zs) (wd : Int) (h0 : 0 ≤ wd) (h1 : wd ≤ 64) (ha : anyW zs wd = false) (hn : n ≤ 17592186044416) :
    Calls Try.prog 40 #[.slice a n c, .int .i64 wd] w fun e w' => PackPost w zs wd n e w' := by
  have hs : SlI .u64 (w.alloc (.cells #[.int .i64 wd] 3)) a n c zs := h.alloc _
  have hwid := anyW_le ha
  have hd : decide (0 ≤ wd ∧ wd ≤ 64) = true := by simp [h0, h1]
  obtain ⟨i0, hi, hz0, hz1, hz2⟩ := info_parts Try.infoU8
  obtain ⟨d, rfl⟩ := Int.eq_ofNat_of_zero_le h0
  have hnd : n * d ≤ n * 64 := Nat.mul_le_mul_left n (by omega)
  have r0 : (0 : Int) ≤ (n : Int) * (d : Int) := by rw [← Int.natCast_mul]; omega
  have r1 : (n : Int) * (d : Int) ≤ 4611686018427387904 := by rw [← Int.natCast_mul]; omega
  obtain ⟨R, hR⟩ : ∃ R : Nat, R = (n * d + 7) / 8 := ⟨_, rfl⟩
  have hR' : ((n : Int) * (d : Int) + 7) / 8 = (R : Int) := by rw [← Int.natCast_mul, hR]; omega
  have hR2 : R ≤ 140737488355328 := by omega
  have HR := Lib.hid hR
  have HR' := Lib.hid hR'
  clear hR hR'
  have HW := Lib.hid hwid
  clear hwid
  go_enter Try.func40, Try.ntmps40
  go_wp2_with (first
      | (go_at_call 75; refine (fits_calls _ _).mono ?_; rintro e w' ⟨rfl, rfl⟩; rw [hd])
      | (go_at_call 76; refine (contains_calls _ _ _ _ _ hs hu (d : Int) w.heap.size (by simp)).mono ?_; rintro e w' ⟨rfl, m, rfl⟩; rw [ha])
      | (go_at_call 78; refine (room_calls _ _ _ r0 r1).mono ?_; rintro e w' ⟨rfl, rfl⟩; rw [HR'.out])
      | (at_make; refine wpList_mk rfl _ _ _ rfl 5 i0 (.int .u8 0) 1 Try.underlying25 hi hz0 hz1 hz2 rfl _ _ _ _ R rfl rfl rfl rfl (by omega) (by omega) ?_; intro w1 hw1 hb1))
  have B1 : Below w.heap.size w w1 := (below_drewN ((Below.refl w.heap.size w).alloc (Nat.le_refl _) _) m).trans (below_of_grown hb1 (by simp) (by simp))
  have c1 : w1.cell? ⟨w.heap.size, 0, none⟩ = some (.int .i64 (d : Int)) := hb1.cell (w := (w.alloc (.cells #[.int .i64 (d : Int)] 3)).drewN m) (by simp) (by simp)
  have row1 : RowI .u8 5 w1 (w.heap.size + 1) (List.replicate R 0) := by
    unfold RowI; rw [List.map_replicate]; simpa using hw1
  have z1 : w.heap.size + 1 < w1.heap.size := row1.lt
  have l1 := Lib.hid h.len
  have C1 := Lib.hid c1
  have ROW1 := Lib.hid row1
  clear hw1 hb1 c1 row1 hs hd ha hi hz0 hz1 hz2 r0 r1
  go_loopw [25] (fun i wr => ∃ (k : Nat), k ≤ n ∧ i = .int .i64 (k : Nat) ∧ RowI .u8 5 wr (w.heap.size + 1) (packTo zs d R k) ∧ w1.grownBy wr (some (w.heap.size + 1))) (fun i _ => n - (intOf i).toNat)
  case atStart => exact ⟨0, by omega, rfl, ROW1.out, World.grownBy.refl _ _⟩
  case round =>
    obtain ⟨k, hk, rfl, hrow, hgr⟩ := hrel
    by_cases hlt : k < n
    · obtain ⟨b1, o1, rfl, e1⟩ := h.cell k hlt
      obtain ⟨u0, u1⟩ := hu k (by rw [l1.out]; exact hlt)
      have hbw := HW.out k (by rw [l1.out]; exact hlt)
      have hps : packTo zs d R (k + 1) = innerTo (packTo zs d R k) (k * d) (zs.getD k 0) d := rfl
      obtain ⟨x, hx⟩ : ∃ x, x = zs.getD k 0 := ⟨_, rfl⟩
      rw [← hx] at e1 u0 u1 hbw hps
      have hbz := bw_lt x u0 u1 d hbw
      have c2 : wr.cell? ⟨w.heap.size, 0, none⟩ = some (.int .i64 (d : Int)) := hgr.cell C1.out (by simp)
      have c3 : wr.cell? ⟨b1, o1 + k, none⟩ = some (.int .u64 x) := hgr.cell ((B1.cell (p := ⟨b1, o1 + k, none⟩) (block_lt_of_cell e1)).trans e1) (by have := block_lt_of_cell e1; simp at this ⊢; omega)
      have hkd : k * d ≤ n * 64 := Nat.mul_le_mul (by omega) (by omega)
      have hkn : k * d + d ≤ n * d := by have := Nat.mul_le_mul_right d (show k + 1 ≤ n by omega); rw [Nat.succ_mul] at this; exact this
      have e8 : (k : Int) * (d : Int) = ((k * d : Nat) : Int) := by rw [Int.natCast_mul]
      have hub := packTo_u8 zs d R k
      have hlb := packTo_len zs d R k
      obtain ⟨bs0, hbs0⟩ : ∃ bs0, bs0 = packTo zs d R k := ⟨_, rfl⟩
      obtain ⟨p, hp⟩ : ∃ p : Nat, p = k * d := ⟨_, rfl⟩
      rw [← hp] at e8 hkd hkn hps
      rw [← hbs0] at hub hlb hps hrow
      have HPS := Lib.hid hps
      have HBZ := Lib.hid hbz
      have HLB := Lib.hid hlb
      have hpR : p + d ≤ 8 * R := by have := HR.out; omega
      clear hp hx e1 hbw hps hbs0 hbz hkn hlb
      obtain ⟨wo, hwo⟩ : ∃ wo : World, wo = wr := ⟨_, rfl⟩
      rw [← hwo] at hrow hgr c2 c3 ⊢
      clear hwo
      go_wp2_with fail
      go_loopw [8, 9] (fun nn aa wr => ∃ (j : Nat) (y : Int) (bs : List Int), j ≤ d ∧ nn = .int .u64 y ∧ aa = .int .i64 ((p + j : Nat) : Int) ∧ y = x / 2 ^ j ∧ bs = innerTo bs0 p x j ∧ RowI .u8 5 wr (w.heap.size + 1) bs ∧ w1.grownBy wr (some (w.heap.size + 1))) (fun nn _ _ => (intOf nn).toNat)
      case atStart => exact ⟨0, x, bs0, by omega, rfl, by rw [Nat.add_zero], by simp, rfl, hrow, hgr⟩
      case round =>
        obtain ⟨j, y, bs, hj, rfl, rfl, hy, hbs, hrow, hgr⟩ := hrel
        have y0 : 0 ≤ y := by rw [hy]; exact Int.ediv_nonneg u0 (Int.le_of_lt (Int.pow_pos (by omega)))
        have y1 : y < 18446744073709551616 := by
          have : x / 2 ^ j ≤ x := Int.ediv_le_self _ u0
          rw [hy]; omega
        have HY := Lib.hid hy
        have HB := Lib.hid hbs
        clear hy hbs
        by_cases hy : 0 < y
        · have hjd : j < d := by
            rcases Nat.lt_or_ge j d with h' | h'
            · exact h'
            · have : y = 0 := by rw [HY.out]; exact half_zero HBZ.out u0 h'
              omega
          have hy' : (y != 0) = true := by simp; omega
          have hbl : bs.length = R := by rw [HB.out, innerTo_len]; exact HLB.out
          have hqR : (p + j) / 8 < R := by omega
          have hc := hrow.cell ((p + j) / 8) (by omega)
          have hf := hrow.frozen ((p + j) / 8)
          have hst : innerTo bs0 p x (j + 1) = bs.set ((p + j) / 8) (bits .or .u8 (bs.getD ((p + j) / 8) 0) (bits .and .u64 y 1 % 256 * 2 ^ ((p + j) % 8) % 256)) := by
            rw [HB.out, HY.out]; rfl
          obtain ⟨v, hv⟩ : ∃ v, v = bs.getD ((p + j) / 8) 0 := ⟨_, rfl⟩
          rw [← hv] at hc hst
          obtain ⟨q, hq⟩ : ∃ q, q = p + j := ⟨_, rfl⟩
          rw [← hq] at hc hf hqR hst ⊢
          have HQ := Lib.hid hq
          have HS := Lib.hid hst
          have hq2 : q ≤ 1125899906842624 := by omega
          clear hv hq hbl hst
          go_wp2_with fail
          go_region
          go_wp2
          go_roundw
          case rel => exact ⟨j + 1, y / 2, _, by omega, by go_num, by rw [HQ.out]; go_num, by rw [HY.out]; exact half_step x j, HS.out.symm, hrow.set _ _, grownBy_drewN (grownBy_setCell hgr _ _) 1⟩
          case measure => simp [intOf]; omega
        · have hy0 : y = 0 := by omega
          have hst : bs = packTo zs d R (k + 1) := by
            have := innerTo_stop hub p u0 (j := j) (by rw [← HY.out]; exact hy0) (d - j)
            rw [show j + (d - j) = d by omega] at this
            rw [HPS.out, this]; exact HB.out
          have HS := Lib.hid hst
          subst hy0
          clear hst hy
          go_wp2
          go_roundw
          case rel => exact ⟨k + 1, by omega, by go_num, by rw [← HS.out]; exact hrow, hgr⟩
          case measure => simp [intOf]; omega
    · obtain rfl : k = n := by omega
      go_wp2
      go_ret2
      exact ⟨d, R, w.heap.size + 1, rfl, HR.out, rfl, by omega, hrow, B1.trans (below_of_grown hgr (by omega) (by simp))⟩
end Go.Proofs.Ytgajpekolamjbaa
/- The document's Pack. -/
namespace Go.Proofs.Ytgajpekolamjbaa
open Go.RowKit Go.Tk
theorem rpack_bad (w : World) (a : Option Addr) (n c : Nat) (wd : Int) (hno : ¬ (0 ≤ wd ∧ wd ≤ 64)) :
    Calls Try.prog 49 #[.slice a n c, .int .i64 wd] w fun e w' => e = .returned (.tuple #[.slice none 0 0, .int .i64 14]) ∧ Below w.heap.size w w' := by
  by_cases h0 : wd < 0
  · go_enter Try.func49, Try.ntmps49
    go_wp2
    go_ret2
    exact ⟨rfl, Below.refl _ _⟩
  · have h1 : 64 < wd := by omega
    go_enter Try.func49, Try.ntmps49
    go_wp2
    go_ret2
    exact ⟨rfl, Below.refl _ _⟩
set_option maxRecDepth 100000 in
theorem rpack_yes (w : World) (a : Option Addr) (n c : Nat) (zs : List Int) (h : SlI .u64 w a n c zs) (hu : U64 zs) (d : Nat) (h1 : d ≤ 64) (hn : n ≤ 17592186044416) :
    Calls Try.prog 49 #[.slice a n c, .int .i64 (d : Int)] w fun e w' => (anyW zs (d : Int) = true → e = .returned (.tuple #[.slice none 0 0, .int .i64 14]) ∧ Below w.heap.size w w') ∧ (anyW zs (d : Int) = false → PackPost w zs (d : Int) n e w') := by
  obtain ⟨i0, hi, hz0, hz1, hz2⟩ := info_parts Try.infoU8
  have hnd : n * d ≤ n * 64 := Nat.mul_le_mul_left n (by omega)
  have r0 : (0 : Int) ≤ (n : Int) * (d : Int) := by rw [← Int.natCast_mul]; omega
  have r1 : (n : Int) * (d : Int) ≤ 4611686018427387904 := by rw [← Int.natCast_mul]; omega
  obtain ⟨R, hR⟩ : ∃ R : Nat, R = (n * d + 7) / 8 := ⟨_, rfl⟩
  have hR' : ((n : Int) * (d : Int) + 7) / 8 = (R : Int) := by rw [← Int.natCast_mul, hR]; omega
  have hR2 : R ≤ 140737488355328 := by omega
  have HR := Lib.hid hR
  have HR' := Lib.hid hR'
  have l1 := Lib.hid h.len
  have m1 := h.le
  have m2 := h.max
  clear hR hR'
  go_enter Try.func49, Try.ntmps49
  go_wp2_with fail
  go_loop [6] (fun i => ∃ k : Nat, k ≤ n ∧ i = .int .i64 (k : Nat) ∧ ∀ j, j < k → bw (zs.getD j 0) ≤ (d : Int)) (fun i => n - (intOf i).toNat)
  case atStart => exact ⟨0, by omega, rfl, fun j hj => by omega⟩
  case round =>
    obtain ⟨k, hk, rfl, ht⟩ := hrel
    have HT := Lib.hid ht
    clear ht
    by_cases hlt : k < n
    · obtain ⟨b1, o1, rfl, e1⟩ := h.cell k hlt
      obtain ⟨u0, u1⟩ := hu k (by rw [l1.out]; exact hlt)
      obtain ⟨x, hx⟩ : ∃ x, x = zs.getD k 0 := ⟨_, rfl⟩
      rw [← hx] at e1 u0 u1
      have HX := Lib.hid hx
      clear hx
      by_cases hw : (d : Int) < bw x
      · go_wp2_with (go_at_call 88; refine (rwidth_calls _ _ u0 u1).mono ?_; rintro e w' ⟨rfl, rfl⟩)
        go_ret2
        have ha : anyW zs (d : Int) = true := anyW_yes (k := k) (by rw [l1.out]; exact hlt) (by rw [← HX.out]; exact hw)
        exact ⟨fun _ => ⟨rfl, Below.refl _ _⟩, fun h' => by rw [ha] at h'; cases h'⟩
      · go_wp2_with (go_at_call 88; refine (rwidth_calls _ _ u0 u1).mono ?_; rintro e w' ⟨rfl, rfl⟩)
        go_round
        case rel => exact ⟨k + 1, by omega, by go_num, fun j hj => by
          by_cases e : j = k
          · subst e; rw [← HX.out]; omega
          · exact HT.out j (by omega)⟩
        case measure => simp [intOf]; omega
    · obtain rfl : n = k := by omega
      have ha : anyW zs (d : Int) = false := anyW_no (fun j hj => HT.out j (by have := l1.out; omega))
      have HA := Lib.hid ha
      clear ha
      go_wp2_with (first
        | (go_at_call 89; refine (rroom_calls _ _ _ r0 r1).mono ?_; rintro e w' ⟨rfl, rfl⟩; rw [HR'.out])
        | (at_make; refine wpList_mk rfl _ _ _ rfl 5 i0 (.int .u8 0) 1 Try.underlying25 hi hz0 hz1 hz2 rfl _ _ _ _ R rfl rfl rfl rfl (by omega) (by omega) ?_; intro w1 hw1 hb1))
      have B1 : Below w.heap.size w w1 := below_of_grown hb1 (Nat.le_refl _) (by simp)
      have row1 : RowI .u8 5 w1 w.heap.size (List.replicate R 0) := by
        unfold RowI; rw [List.map_replicate]; exact hw1
      have z1 : w.heap.size < w1.heap.size := row1.lt
      have ROW1 := Lib.hid row1
      clear hw1 hb1 row1 hi hz0 hz1 hz2 r0 r1
      go_loopw [8] (fun i wr => ∃ (k : Nat), k ≤ n ∧ i = .int .i64 (k : Nat) ∧ RowI .u8 5 wr w.heap.size (packTo zs d R k) ∧ w1.grownBy wr (some w.heap.size)) (fun i _ => n - (intOf i).toNat)
      case atStart => exact ⟨0, by omega, rfl, ROW1.out, World.grownBy.refl _ _⟩
      case round =>
        obtain ⟨k, hk, rfl, hrow, hgr⟩ := hrel
        by_cases hlt : k < n
        · obtain ⟨b1, o1, rfl, e1⟩ := h.cell k hlt
          obtain ⟨u0, u1⟩ := hu k (by rw [l1.out]; exact hlt)
          have hps : packTo zs d R (k + 1) = innerTo (packTo zs d R k) (k * d) (zs.getD k 0) d := rfl
          obtain ⟨x, hx⟩ : ∃ x, x = zs.getD k 0 := ⟨_, rfl⟩
          rw [← hx] at e1 u0 u1 hps
          have c3 : w1.cell? ⟨b1, o1 + k, none⟩ = some (.int .u64 x) := (B1.cell (p := ⟨b1, o1 + k, none⟩) (block_lt_of_cell e1)).trans e1
          have c4 : b1 ≠ w.heap.size := by have := block_lt_of_cell e1; simp at this; omega
          have hkd : k * d ≤ n * 64 := Nat.mul_le_mul (by omega) (by omega)
          have hkn : k * d + d ≤ n * d := by have := Nat.mul_le_mul_right d (show k + 1 ≤ n by omega); rw [Nat.succ_mul] at this; exact this
          have e8 : (k : Int) * (d : Int) = ((k * d : Nat) : Int) := by rw [Int.natCast_mul]
          have hlb := packTo_len zs d R k
          obtain ⟨bs0, hbs0⟩ : ∃ bs0, bs0 = packTo zs d R k := ⟨_, rfl⟩
          obtain ⟨p, hp⟩ : ∃ p : Nat, p = k * d := ⟨_, rfl⟩
          rw [← hp] at e8 hkd hkn hps
          rw [← hbs0] at hlb hps hrow
          have HPS := Lib.hid hps
          have HLB := Lib.hid hlb
          have hpR : p + d ≤ 8 * R := by have := HR.out; omega
          clear hp hx e1 hps hbs0 hkn hlb
          obtain ⟨wo, hwo⟩ : ∃ wo : World, wo = wr := ⟨_, rfl⟩
          rw [← hwo] at hrow hgr ⊢
          clear hwo
          have C3 := Lib.hid c3
          clear c3
          go_wp2_with fail
          go_loopw [9] (fun aa wr => ∃ (j : Nat) (bs : List Int), j ≤ d ∧ aa = .int .i64 (j : Nat) ∧ bs = innerTo bs0 p x j ∧ RowI .u8 5 wr w.heap.size bs ∧ w1.grownBy wr (some w.heap.size)) (fun aa _ => d - (intOf aa).toNat)
          case atStart => exact ⟨0, bs0, by omega, rfl, rfl, hrow, hgr⟩
          case round =>
            obtain ⟨j, bs, hj, rfl, hbs, hrow, hgr⟩ := hrel
            have HB := Lib.hid hbs
            clear hbs
            by_cases hjd : j < d
            · have hbl : bs.length = R := by rw [HB.out, innerTo_len]; exact HLB.out
              have hqR : (p + j) / 8 < R := by omega
              have hc := hrow.cell ((p + j) / 8) (by omega)
              have hf := hrow.frozen ((p + j) / 8)
              have c3 : wr.cell? ⟨b1, o1 + k, none⟩ = some (.int .u64 x) := hgr.cell C3.out (by simp; exact c4)
              have hst : innerTo bs0 p x (j + 1) = bs.set ((p + j) / 8) (bits .or .u8 (bs.getD ((p + j) / 8) 0) (bits .and .u64 (x / 2 ^ j) 1 % 256 * 2 ^ ((p + j) % 8) % 256)) := by
                rw [HB.out]; rfl
              obtain ⟨v, hv⟩ : ∃ v, v = bs.getD ((p + j) / 8) 0 := ⟨_, rfl⟩
              rw [← hv] at hc hst
              have HS := Lib.hid hst
              clear hv hbl hst
              go_wp2_with fail
              go_region
              go_wp2
              go_roundw
              case rel => exact ⟨j + 1, _, by omega, by go_num, HS.out.symm, hrow.set _ _, grownBy_drewN (grownBy_setCell hgr _ _) 1⟩
              case measure => simp [intOf]; omega
            · have hje : j = d := by omega
              have hst : bs = packTo zs d R (k + 1) := by rw [HPS.out, ← hje]; exact HB.out
              have HS := Lib.hid hst
              clear hst hje
              go_wp2
              go_roundw
              case rel => exact ⟨k + 1, by omega, by go_num, by rw [← HS.out]; exact hrow, hgr⟩
              case measure => simp [intOf]; omega
        · obtain rfl : n = k := by omega
          go_wp2
          go_ret2
          exact ⟨fun h' => (by rw [HA.out] at h'; cases h'), fun _ => ⟨d, R, w.heap.size, rfl, HR.out, rfl, Nat.le_refl _, hrow, B1.trans (below_of_grown hgr (by omega) (by simp))⟩⟩
end Go.Proofs.Ytgajpekolamjbaa
