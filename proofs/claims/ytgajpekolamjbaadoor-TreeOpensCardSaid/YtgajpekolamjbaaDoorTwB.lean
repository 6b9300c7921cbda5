/- TvD TwB, laid as one. -/
import Derived.Test.YtgajpekolamjbaaDoorTvC
import Derived.Test.YtgajpekolamjbaaDoorSamesameBytes18
set_option linter.unusedVariables false
set_option linter.unusedSimpArgs false
/- The number of an entry of a level. -/
namespace Go.Tk
open Go Go.RowKit
/-- So many bytes from a place on, as a number. -/
def acB (l : List UInt8) (p : Nat) : Nat → Nat
  | 0 => 0
  | K + 1 => acB l p K + (l.getD (p + K) 0).toNat * 2 ^ (8 * K)
theorem acB_lt (l : List UInt8) (p : Nat) : ∀ K, acB l p K < 2 ^ (8 * K)
  | 0 => by simp [acB]
  | K + 1 => by
    have h := acB_lt l p K
    have hb := UInt8.toNat_lt (l.getD (p + K) 0)
    simp only [acB]
    have e : 2 ^ (8 * (K + 1)) = 256 * 2 ^ (8 * K) := by rw [show 8 * (K + 1) = 8 * K + 8 by omega, Nat.pow_add]; omega
    rw [e]
    have : (l.getD (p + K) 0).toNat * 2 ^ (8 * K) ≤ 255 * 2 ^ (8 * K) := Nat.mul_le_mul_right _ (by omega)
    omega
theorem acB_end (l : List UInt8) (p K : Nat) (h : l.length ≤ p + K) : ∀ d, acB l p (K + d) = acB l p K
  | 0 => rfl
  | d + 1 => by
    rw [← Nat.add_assoc]
    simp only [acB]
    rw [acB_end l p K h d]
    have : l.getD (p + (K + d)) 0 = 0 := by rw [List.getD_eq_getElem?_getD, List.getElem?_eq_none (by omega)]; rfl
    rw [this]; simp
theorem and_mask (x d : Nat) (hx : x < 4611686018427387904) (hd : d ≤ 23) : bits .and .i64 (x : Int) ((2 : Int) ^ d - 1) = ((x % 2 ^ d : Nat) : Int) := by
  have hp : (2 : Int) ^ d - 1 = ((2 ^ d - 1 : Nat) : Int) := by
    have h1 : 1 ≤ 2 ^ d := Nat.one_le_two_pow
    have e : ((2 ^ d : Nat) : Int) = (2 : Int) ^ d := Int.natCast_pow 2 d
    omega
  have h2 : 2 ^ d ≤ 2 ^ 23 := Nat.pow_le_pow_right (by decide) hd
  rw [hp]
  have key : (BitVec.ofInt 64 (x : Int) &&& BitVec.ofInt 64 ((2 ^ d - 1 : Nat) : Int)).toNat = x % 2 ^ d := by
    rw [BitVec.toNat_and, BitVec.toNat_ofInt, BitVec.toNat_ofInt]
    have e1 : ((x : Int) % ((2 ^ 64 : Nat) : Int)).toNat = x := by omega
    have e2 : (((2 ^ d - 1 : Nat) : Int) % ((2 ^ 64 : Nat) : Int)).toNat = 2 ^ d - 1 := by omega
    rw [e1, e2, Nat.and_two_pow_sub_one_eq_mod]
  show IntKind.i64.wrap ((BitVec.ofInt 64 (x : Int) &&& BitVec.ofInt 64 ((2 ^ d - 1 : Nat) : Int)).toNat : Nat) = _
  rw [key, IntKind.wrap_i64]
  have : x % 2 ^ d < 2 ^ d := Nat.mod_lt _ Nat.one_le_two_pow
  omega
/-- The number of an entry. -/
def numF (l : List UInt8) (wd i : Nat) : Nat := acB l (i * wd / 8) 4 / 2 ^ (i * wd % 8) % 2 ^ wd
theorem numF_lt (l : List UInt8) (wd i : Nat) (h : wd ≤ 23) : numF l wd i < 8388608 := by
  unfold numF
  have h1 : acB l (i * wd / 8) 4 / 2 ^ (i * wd % 8) % 2 ^ wd < 2 ^ wd := Nat.mod_lt _ Nat.one_le_two_pow
  have h2 : 2 ^ wd ≤ 2 ^ 23 := Nat.pow_le_pow_right (by decide) h
  omega
end Go.Tk
namespace Go.Proofs.YtgajpekolamjbaaDoor
open Go Go.RowKit Go.Tk
set_option maxRecDepth 100000 in
set_option maxHeartbeats 1000000 in
theorem tnumber_calls (w : World) (gd p wd : Nat) (pa : Option Addr) (pl pc : Nat) (pz : List UInt8) (c1 : w.cell? ⟨gd, p + 1, none⟩ = some (.int .i64 (wd : Nat))) (c5 : w.cell? ⟨gd, p + 5, none⟩ = some (.slice pa pl pc)) (hs : SlI .u8 w pa pl pc (nums pz)) (hwd : wd ≤ 23) (i : Nat) (hi : i ≤ 2097152) :
    Calls Tryd.prog 37 #[.pointer (some ⟨gd, p, none⟩), .int .i64 (i : Nat)] w fun e w' => e = .returned (.int .i64 (numF pz wd i : Nat)) ∧ ∃ m, w' = w.drewN m := by
  have hpl := hs.le
  have hpm := hs.max
  have hpz : pz.length = pl := by have := hs.len; rwa [nums_len] at this
  obtain ⟨fr, hfr⟩ : ∃ fr : Nat, fr = i * wd := ⟨_, rfl⟩
  have hfr2 : fr ≤ 48234496 := by rw [hfr]; exact Nat.le_trans (Nat.mul_le_mul hi hwd) (by decide)
  have hmul : (i : Int) * (wd : Int) = (fr : Int) := by rw [hfr]; exact (Int.natCast_mul i wd).symm
  obtain ⟨q, hq⟩ : ∃ q : Nat, q = fr / 8 := ⟨_, rfl⟩
  obtain ⟨r, hr⟩ : ∃ r : Nat, r = fr % 8 := ⟨_, rfl⟩
  have hqi : (fr : Int) / 8 = (q : Int) := by omega
  have hri : (fr : Int) % 8 = (r : Int) := by omega
  have hq2 : q ≤ 6029312 := by omega
  have hr2 : r < 8 := by omega
  have hnum : numF pz wd i = acB pz q 4 / 2 ^ r % 2 ^ wd := by unfold numF; rw [← hfr, ← hq, ← hr]
  have HS := Lib.hid hs
  have HPZ := Lib.hid hpz
  have HNUM := Lib.hid hnum
  clear hs hpz hnum hfr hq hr
  go_enter Tryd.func37, Tryd.ntmps37
  go_wp2
  go_loopw [6, 7] (fun nv kv wr => ∃ (k : Nat), kv = .int .i64 (k : Nat) ∧ nv = .int .i64 (acB pz q k : Nat) ∧ k ≤ 4 ∧ wr = w) (fun _ kv _ => 4 - (intOf kv).toNat)
  case atStart => exact ⟨0, rfl, rfl, Nat.zero_le _, rfl⟩
  case round =>
    obtain ⟨k, rfl, rfl, hk, rfl⟩ := hrel
    have hac := acB_lt pz q k
    have hk2 : 2 ^ (8 * k) ≤ 2 ^ 32 := Nat.pow_le_pow_right (by decide) (by omega)
    have ha4 : acB pz q k < 4294967296 := by omega
    by_cases hk4 : k < 4
    · by_cases hin : q + k < pl
      · obtain ⟨b, o, rfl, hc⟩ := HS.out.cell (q + k) hin
        rw [nums_getD _ _ (by rw [HPZ.out]; exact hin)] at hc
        have hgx : (pz[q + k]'(by rw [HPZ.out]; exact hin)) = pz.getD (q + k) 0 := by simp [show q + k < pz.length by rw [HPZ.out]; exact hin]
        rw [hgx] at hc
        obtain ⟨y, hy⟩ : ∃ y, y = (pz.getD (q + k) 0).toNat := ⟨_, rfl⟩
        rw [← hy] at hc
        have hy2 : y < 256 := by rw [hy]; exact UInt8.toNat_lt _
        have hnx : acB pz q (k + 1) = acB pz q k + y * 2 ^ (8 * k) := by simp only [acB]; rw [← hy]
        have hpw : ((2 : Int) ^ (8 * k)) = ((2 ^ (8 * k) : Nat) : Int) := (Int.natCast_pow 2 (8 * k)).symm
        have hor0 := or_step (8 * k) (acB pz q k) y hac (by omega) (by
          have : y * 2 ^ (8 * k) ≤ 255 * 2 ^ 24 := Nat.mul_le_mul (by omega) (Nat.pow_le_pow_right (by decide) (by omega))
          omega)
        have hyb : y * 2 ^ (8 * k) ≤ 255 * 2 ^ 24 := Nat.mul_le_mul (by omega) (Nat.pow_le_pow_right (by decide) (by omega))
        have hyi : (y : Int) * ((2 ^ (8 * k) : Nat) : Int) = ((y * 2 ^ (8 * k) : Nat) : Int) := (Int.natCast_mul _ _).symm
        rw [← hnx, ← hpw] at hor0
        rw [← hpw] at hyi
        obtain ⟨ac, hace⟩ : ∃ ac, ac = acB pz q k := ⟨_, rfl⟩
        obtain ⟨nx, hnxe⟩ : ∃ nx, nx = acB pz q (k + 1) := ⟨_, rfl⟩
        rw [← hace, ← hnxe] at hor0
        rw [← hace]
        rw [← hace] at ha4
        have hw5 : IntKind.i64.wrap ((y : Int) * (2 : Int) ^ (8 * k)) = (y : Int) * (2 : Int) ^ (8 * k) := by rw [hyi, IntKind.wrap_i64]; omega
        have htm : (8 * (k : Int)).toNat = 8 * k := by omega
        have HNX := Lib.hid hnxe
        clear hac hk2 hpw hyb hyi hnx hnxe hace hgx hy
        go_wp2_with fail
        exact ⟨⟨k + 1, by go_num, by rw [← HNX.out], by omega, trivial⟩, by simp [intOf]; omega⟩
      · have hend : acB pz q 4 = acB pz q k := by
          have := acB_end pz q k (by rw [HPZ.out]; omega) (4 - k)
          rwa [show k + (4 - k) = 4 by omega] at this
        have hnum := HNUM.out
        have HNM := Lib.hid (show numF pz wd i = acB pz q k / 2 ^ r % 2 ^ wd by rw [hnum, hend])
        obtain ⟨ac, hace⟩ : ∃ ac, ac = acB pz q k := ⟨_, rfl⟩
        rw [← hace] at HNM ha4 ⊢
        obtain ⟨dv, hdv⟩ : ∃ dv : Nat, dv = ac / 2 ^ r := ⟨_, rfl⟩
        have hdvi : (ac : Int) / (2 : Int) ^ r = (dv : Int) := by rw [hdv]; exact (by rw [Int.natCast_ediv, Int.natCast_pow]; rfl)
        have hdv2 : dv ≤ ac := by rw [hdv]; exact Nat.div_le_self _ _
        have hand := and_mask dv wd (by omega) hwd
        obtain ⟨rs, hrs⟩ : ∃ rs : Nat, rs = dv % 2 ^ wd := ⟨_, rfl⟩
        rw [← hrs] at hand
        have hpw : ((2 : Int) ^ wd) = ((2 ^ wd : Nat) : Int) := (Int.natCast_pow 2 wd).symm
        have hp2 : 2 ^ wd ≤ 2 ^ 23 := Nat.pow_le_pow_right (by decide) hwd
        have hp1 : 1 ≤ 2 ^ wd := Nat.one_le_two_pow
        have hwp : IntKind.i64.wrap ((2 : Int) ^ wd) = (2 : Int) ^ wd := by rw [hpw, IntKind.wrap_i64]; omega
        have hwm : IntKind.i64.wrap ((2 : Int) ^ wd - 1) = (2 : Int) ^ wd - 1 := by rw [hpw, IntKind.wrap_i64]; omega
        have HRS := Lib.hid (show numF pz wd i = rs by rw [HNM.out, hrs, hdv])
        clear hnum hend hace hdv hrs hpw hp2 hp1 HNM hac hk2
        go_wp2_with fail
        go_quiet (fail)
        go_wp2_with fail
        go_ret
        exact ⟨by rw [HRS.out]; rfl, _, rfl⟩
    · obtain rfl : k = 4 := by omega
      have hend : acB pz q 4 = acB pz q 4 := rfl
      have hnum := HNUM.out
      have HNM := Lib.hid (show numF pz wd i = acB pz q 4 / 2 ^ r % 2 ^ wd by rw [hnum, hend])
      obtain ⟨ac, hace⟩ : ∃ ac, ac = acB pz q 4 := ⟨_, rfl⟩
      rw [← hace] at HNM ha4 ⊢
      obtain ⟨dv, hdv⟩ : ∃ dv : Nat, dv = ac / 2 ^ r := ⟨_, rfl⟩
      have hdvi : (ac : Int) / (2 : Int) ^ r = (dv : Int) := by rw [hdv]; exact (by rw [Int.natCast_ediv, Int.natCast_pow]; rfl)
      have hdv2 : dv ≤ ac := by rw [hdv]; exact Nat.div_le_self _ _
      have hand := and_mask dv wd (by omega) hwd
      obtain ⟨rs, hrs⟩ : ∃ rs : Nat, rs = dv % 2 ^ wd := ⟨_, rfl⟩
      rw [← hrs] at hand
      have hpw : ((2 : Int) ^ wd) = ((2 ^ wd : Nat) : Int) := (Int.natCast_pow 2 wd).symm
      have hp2 : 2 ^ wd ≤ 2 ^ 23 := Nat.pow_le_pow_right (by decide) hwd
      have hp1 : 1 ≤ 2 ^ wd := Nat.one_le_two_pow
      have hwp : IntKind.i64.wrap ((2 : Int) ^ wd) = (2 : Int) ^ wd := by rw [hpw, IntKind.wrap_i64]; omega
      have hwm : IntKind.i64.wrap ((2 : Int) ^ wd - 1) = (2 : Int) ^ wd - 1 := by rw [hpw, IntKind.wrap_i64]; omega
      have HRS := Lib.hid (show numF pz wd i = rs by rw [HNM.out, hrs, hdv])
      clear hnum hend hace hdv hrs hpw hp2 hp1 HNM hac hk2
      go_wp2_with fail
      go_quiet (fail)
      go_wp2_with fail
      go_ret
      exact ⟨by rw [HRS.out]; rfl, _, rfl⟩
end Go.Proofs.YtgajpekolamjbaaDoor
/- Bytes lent, with their holder's behind the end; given back as they were. -/
namespace Go.Proofs.YtgajpekolamjbaaDoor
open Go.RowKit Go.Tk
set_option maxRecDepth 100000 in
set_option maxHeartbeats 1000000 in
theorem lent18_calls (w : World) (a : Option Addr) (n c : Nat) (z : List Int) (h : SlI .u8 w a n c z) (hn : n ≤ 140737488351232) :
    Calls Tryd.prog 4 #[.slice a n c] w fun e w' => e = .returned (.slice (some ⟨w.heap.size, 0, none⟩) n (n + 2)) ∧ Fresh .u8 5 w w' w.heap.size (z ++ [171, 172]) := by
  obtain ⟨i0, hi, hz0, hz1, hz2⟩ := info_parts Tryd.infoU8
  obtain ⟨Z, hZ⟩ : ∃ Z, Z = List.replicate (n + 2) (Value.int .u8 0) := ⟨_, rfl⟩
  obtain ⟨X, hX⟩ : ∃ X, X = z.map (Value.int .u8) := ⟨_, rfl⟩
  have lZ : Z.length = n + 2 := by rw [hZ]; simp
  have lX : X.length = n := by rw [hX]; simp [h.len]
  have hsp : splice Z 0 X = X ++ [.int .u8 0, .int .u8 0] := by
    rw [hZ]
    simp [splice, lX, List.drop_replicate]
  have hcells : 0 < X.length → ∃ ad, a = some ad ∧ ∀ j v, X[j]? = some v → w.cell? (ad.add j) = some v := by
    intro hp
    obtain ⟨b, o, rfl, _⟩ := h.cell 0 (by omega)
    refine ⟨_, rfl, fun j v hj => ?_⟩
    rw [hX] at hj
    simp only [List.getElem?_map, Option.map_eq_some_iff] at hj
    obtain ⟨x, hx, rfl⟩ := hj
    obtain ⟨hl, hx'⟩ := List.getElem?_eq_some_iff.1 hx
    obtain ⟨b', o', e, hc⟩ := h.cell j (by have := h.len; omega)
    obtain ⟨rfl, rfl⟩ : b = b' ∧ o = o' := by simpa using e
    rw [Addr.add_lit, hc]
    simp [hl, hx']
  have hzl := h.len
  have HZ := Lib.hid hZ
  have HX := Lib.hid hX
  have LZ := Lib.hid lZ
  have LX := Lib.hid lX
  have HS := Lib.hid hsp
  have HC := Lib.hid hcells
  have HZL := Lib.hid hzl
  clear hZ hX lZ lX hsp hcells h hzl
  go_enter Tryd.func4, Tryd.ntmps4
  go_wp2_with (first
    | (at_make; refine wpList_mk rfl _ _ _ rfl 5 i0 (.int .u8 0) 1 Tryd.underlying22 hi hz0 hz1 hz2 rfl _ _ _ _ (n + 2) rfl rfl (by go_num) (by go_num) (by omega) (by omega) ?_; intro w1 hw1 hb1; rw [← HZ.out] at hw1; have HW := Lib.hid hw1; have HB1 := Lib.hid hb1; clear hw1 hb1)
    | (with_reducible refine wpList_copy_splice rfl (.tmp 8) (.tmp 9) _ _ rfl 5 Tryd.underlying22 (by rw [hi]; simp [hz1]) _ _ _ _ _ _ rfl rfl w.heap.size 0 Z 5 HW.out X ?c1 ?c2 ?c3 ?c4 w.heap.size w ?c5 (Nat.le_refl _) ?_))
  case c1 => rw [LX.out]; simp
  case c2 =>
    intro hp
    obtain ⟨ad, rfl, hc⟩ := HC.out hp
    have hk : ∀ j v, X[j]? = some v → w1.cell? (ad.add j) = some v := fun j v hj => HB1.out.cell (hc j v hj) (by simp)
    first | exact ⟨rfl, ad, rfl, hk⟩ | exact ⟨ad, rfl, hk⟩ | (simp; exact hk)
  case c3 => rw [LX.out, LZ.out]; omega
  case c4 => rw [HX.out]; exact ints_oneCell _ _
  case c5 => exact below_of_grown HB1.out (Nat.le_refl _) (by simp)
  intro w2 h2 hb2
  have hrow : RowI .u8 5 w2 w.heap.size (z ++ [0, 0]) := by
    have := h2
    rw [HS.out, HX.out] at this
    unfold RowI
    rw [this]; simp
  have h3 := (hrow.set n 171)
  have h4 := (h3.set (n + 1) 172)
  have he : ((z ++ [0, 0]).set n 171).set (n + 1) 172 = z ++ [171, 172] := by
    have e := HZL.out
    subst e
    simp
  rw [he] at h4
  have c0 := hrow.cell n (by simp [HZL.out])
  have c1 := h3.cell (n + 1) (by simp [HZL.out])
  have f0 := hrow.frozen n
  have f1 := h3.frozen (n + 1)
  have HROW := Lib.hid hrow
  have H3 := Lib.hid h3
  have H4 := Lib.hid h4
  have HB2 := Lib.hid hb2
  have hlt := hrow.lt
  clear h2 hb2 hrow h3 h4 he
  go_wp2
  go_ret
  refine ⟨rfl, Nat.le_refl _, H4.out, ?_⟩
  exact (HB2.out.setCell (p := ⟨w.heap.size, n, none⟩) (Nat.le_refl _) _).setCell (p := ⟨w.heap.size, n + 1, none⟩) (Nat.le_refl _) _
theorem back18_calls (w : World) (g : Nat) (a : Option Addr) (n c : Nat) (z : List Int) (hrow : RowI .u8 5 w g (z ++ [171, 172])) (h : SlI .u8 w a n c z) (hn : n ≤ 140737488351232) :
    Calls Tryd.prog 10 #[.slice (some ⟨g, 0, none⟩) n (n + 2), .slice a n c] w fun e w' => e = .returned (.bool true) ∧ ∃ m, w' = w.drewN m := by
  have hzl := h.len
  have hsl := hrow.sl n (n + 2) (by simp; omega) (by simp; omega) (by omega)
  have ht : (z ++ [171, 172]).take n = z := by rw [← hzl]; simp
  rw [ht] at hsl
  have hsm := sameBytes18_calls w _ n (n + 2) z a n c z hsl h
  rw [sameB_yes rfl] at hsm
  have c0 := hrow.cell n (by simp; omega)
  have c1 := hrow.cell (n + 1) (by simp; omega)
  have e0 : (z ++ [171, 172]).getD n 0 = 171 := by rw [← hzl]; simp
  have e1 : (z ++ [171, 172]).getD (n + 1) 0 = 172 := by rw [← hzl]; simp
  rw [e0] at c0
  rw [e1] at c1
  have HSM := Lib.hid hsm
  clear hsm hsl ht hrow h hzl e0 e1
  go_enter Tryd.func10, Tryd.ntmps10
  go_wp2_with (go_at_call 24; refine HSM.out.mono ?_; rintro e w1 ⟨rfl, m, rfl⟩)
  go_ret
  exact ⟨rfl, _, rfl⟩
end Go.Proofs.YtgajpekolamjbaaDoor
