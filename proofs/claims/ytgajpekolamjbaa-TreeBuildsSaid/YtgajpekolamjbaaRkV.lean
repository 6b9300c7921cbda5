/- A vector's object; Len, Ones, Bit, Rank, Rank0. -/
import Derived.Test.YtgajpekolamjbaaRkF
import Derived.Test.YtgajpekolamjbaaReg
import Derived.BigQuiet
import Derived.Test.YtgajpekolamjbaaQu
set_option linter.unusedVariables false
set_option linter.unusedSimpArgs false
namespace Go.Tk
open Go Go.RowKit
def oG (n : Nat) : Nat := 8 + (n + 7) / 8
def oS (n : Nat) : Nat := oG n + 4 * ((n + 2047) / 2048)
def oM (n : Nat) : Nat := oS n + 2 * ((n + 255) / 256)
def oE (n m : Nat) : Nat := oM n + 4 * ((m + 511) / 512)
/-- The data of a vector's bytes, and all behind them. -/
def datB (bs : List UInt8) : List UInt8 := bs.drop 8
/-- What Rank reckons at a place inside. -/
def rawV (bs : List UInt8) (n i : Nat) : Nat := f4 bs (oG n + 4 * (i / 2048)) + f2 bs (oS n + 2 * (i / 256)) + (cntB (datB bs) i - cntB (datB bs) (i / 256 * 256))
def rankV (bs : List UInt8) (n m : Nat) (i : Int) : Nat := if i ≤ 0 ∨ n = 0 then 0 else if (n : Int) ≤ i then m else min (rawV bs n i.toNat) i.toNat
theorem drop_getD (l : List UInt8) (p i : Nat) : (l.drop p).getD i 0 = l.getD (p + i) 0 := by
  simp [List.getD_eq_getElem?_getD, List.getElem?_drop]
theorem f4_drop (l : List UInt8) (p : Nat) : f4 (l.drop p) 0 = f4 l p := by
  unfold f4; simp only [drop_getD, Nat.zero_add, Nat.add_zero]
theorem f2_drop (l : List UInt8) (p : Nat) : f2 (l.drop p) 0 = f2 l p := by
  unfold f2; simp only [drop_getD, Nat.zero_add, Nat.add_zero]
theorem quiet_dr {P : Program} {w : World} {f : FuncId} {args : Array Value} {n : Nat} {v : Value}
    (h : Calls P f args (w.drewN n) fun e w' => e = .returned v ∧ ∃ k, w' = (w.drewN n).drewN k) : Calls P f args (w.drewN n) fun e w'' => e = .returned v ∧ ∃ m, w'' = w.drewN m :=
  h.mono fun _ _ ⟨he, k, hk⟩ => ⟨he, n + k, by rw [hk]; simp [World.drewN, Nat.add_assoc]⟩
theorem byte_low : ∀ y : Fin 256, ∀ v : Fin 8, Lib.onesCount (y.val % 2 ^ v.val) = (List.range v.val).foldl (fun a j => a + (if y.val.testBit j = true then 1 else 0)) 0 := by decide +kernel
theorem cnt_low (d : List UInt8) (q : Nat) (v : Nat) (hv : v < 8) : cntB d (8 * q + v) = cntB d (8 * q) + Lib.onesCount ((d.getD q 0).toNat % 2 ^ v) := by
  have h := byte_low ⟨(d.getD q 0).toNat, UInt8.toNat_lt _⟩ ⟨v, hv⟩
  simp only at h
  rw [h]
  have e : ∀ j, j < 8 → btB d (8 * q + j) = (d.getD q 0).toNat.testBit j := fun j hj => bt_at d q j hj
  have key : ∀ k, k ≤ 8 → cntB d (8 * q + k) = cntB d (8 * q) + (List.range k).foldl (fun a j => a + (if (d.getD q 0).toNat.testBit j = true then 1 else 0)) 0 := by
    intro k
    induction k with
    | zero => intro _; rfl
    | succ k ih =>
      intro hk
      rw [← Nat.add_assoc]
      simp only [cntB]
      rw [ih (by omega), e k (by omega), List.range_succ, List.foldl_append]
      simp only [List.foldl_cons, List.foldl_nil]
      omega
  exact key v (by omega)
theorem pow7 {v : Nat} (h : v < 8) : 2 ^ v ≤ 128 := by
  have : ∀ v : Fin 8, 2 ^ v.val ≤ 128 := by decide
  exact this ⟨v, h⟩
theorem mask_and : ∀ y : Fin 256, ∀ v : Fin 8, bits .and .u8 (y.val : Int) (2 ^ v.val - 1) = ((y.val % 2 ^ v.val : Nat) : Int) := by decide +kernel
end Go.Tk
namespace Go.Proofs.Ytgajpekolamjbaa
open Go.RowKit Go.Tk
structure VecAt (w : World) (gv : Nat) (a : Option Addr) (c : Nat) (bs : List UInt8) (n m : Nat) : Prop where
  row : w.heap[gv]? = some (.cells #[.slice a bs.length c, .int .i64 (n : Nat), .int .i64 (m : Nat), .int .i64 8, .int .i64 (oG n : Nat), .int .i64 (oS n : Nat), .int .i64 (oM n : Nat), .int .i64 (oE n m : Nat)] 160 (0, 0))
  sl : SlI .u8 w a bs.length c (nums bs)
  fit : bs.length = oE n m
  mn : m ≤ n
  nN : n ≤ 67108864
theorem VecAt.drewN {w gv a c bs n m} (h : VecAt w gv a c bs n m) (k : Nat) : VecAt (w.drewN k) gv a c bs n m := ⟨h.row, h.sl.drewN k, h.fit, h.mn, h.nN⟩
theorem VecAt.k0 {w gv a c bs n m} (h : VecAt w gv a c bs n m) : w.cell? ⟨gv, 0, none⟩ = some (.slice a bs.length c) := cell_of_row w gv 0 _ _ _ h.row
theorem VecAt.k1 {w gv a c bs n m} (h : VecAt w gv a c bs n m) : w.cell? ⟨gv, 1, none⟩ = some (.int .i64 (n : Nat)) := cell_of_row w gv 1 _ _ _ h.row
theorem VecAt.k2 {w gv a c bs n m} (h : VecAt w gv a c bs n m) : w.cell? ⟨gv, 2, none⟩ = some (.int .i64 (m : Nat)) := cell_of_row w gv 2 _ _ _ h.row
theorem VecAt.k3 {w gv a c bs n m} (h : VecAt w gv a c bs n m) : w.cell? ⟨gv, 3, none⟩ = some (.int .i64 8) := cell_of_row w gv 3 _ _ _ h.row
theorem VecAt.k4 {w gv a c bs n m} (h : VecAt w gv a c bs n m) : w.cell? ⟨gv, 4, none⟩ = some (.int .i64 (oG n : Nat)) := cell_of_row w gv 4 _ _ _ h.row
theorem VecAt.k5 {w gv a c bs n m} (h : VecAt w gv a c bs n m) : w.cell? ⟨gv, 5, none⟩ = some (.int .i64 (oS n : Nat)) := cell_of_row w gv 5 _ _ _ h.row
theorem cell_bytes {w : World} {b o n c : Nat} {l : List UInt8} (h : SlI .u8 w (some ⟨b, o, none⟩) n c (nums l)) (i : Nat) (hi : i < n) : w.cell? ⟨b, o + i, none⟩ = some (.int .u8 ((l.getD i 0).toNat : Nat)) := by
  obtain ⟨b', o', e, hc⟩ := byte_cell h i hi
  obtain ⟨rfl, rfl⟩ : b = b' ∧ o = o' := by simpa using e
  exact hc
theorem len_calls {w gv a c bs n m} (h : VecAt w gv a c bs n m) : Calls Try.prog 59 #[.pointer (some ⟨gv, 0, none⟩)] w fun e w' => e = .returned (.int .i64 (n : Nat)) ∧ w = w' := by
  have k1 := h.k1
  clear h
  go_enter Try.func59, Try.ntmps59
  go_wp2
  go_ret
  exact ⟨rfl, rfl⟩
theorem ones_calls {w gv a c bs n m} (h : VecAt w gv a c bs n m) : Calls Try.prog 60 #[.pointer (some ⟨gv, 0, none⟩)] w fun e w' => e = .returned (.int .i64 (m : Nat)) ∧ w = w' := by
  have k2 := h.k2
  clear h
  go_enter Try.func60, Try.ntmps60
  go_wp2
  go_ret
  exact ⟨rfl, rfl⟩
set_option maxRecDepth 100000 in
set_option maxHeartbeats 2000000 in
theorem rank_in {w gv a c bs n m} (h : VecAt w gv a c bs n m) (i : Nat) (h0 : 0 < i) (hi : i < n) : Calls Try.prog 63 #[.pointer (some ⟨gv, 0, none⟩), .int .i64 (i : Nat)] w fun e w' => e = .returned (.int .i64 (min (rawV bs n i) i : Nat)) ∧ ∃ k, w' = w.drewN k := by
  have k0 := h.k0
  have k1 := h.k1
  have k3 := h.k3
  have k4 := h.k4
  have k5 := h.k5
  have hfit := h.fit
  have hmn := h.mn
  have hnN := h.nN
  have hlen := h.sl.le
  have hmax := h.sl.max
  have hS4 : oG n + 4 * (i / 2048) + 4 ≤ oS n := by unfold oS; omega
  have hM2 : oS n + 2 * (i / 256) + 2 ≤ oM n := by unfold oM; omega
  have hE : oM n ≤ bs.length := by rw [hfit]; unfold oE; omega
  have hSM : oS n ≤ oM n := by unfold oM; omega
  have hG8 : 8 + i / 8 < oG n := by unfold oG; omega
  have hbig : bs.length ≤ 100000000 := by rw [hfit]; unfold oE oM oS oG; omega
  obtain ⟨b, o, rfl, _⟩ := h.sl.cell 0 (by omega)
  have s4 := h.sl.tail (oG n + 4 * (i / 2048)) (by omega)
  have s2 := h.sl.tail (oS n + 2 * (i / 256)) (by omega)
  rw [nums_drop, if_neg (by omega)] at s4 s2
  simp only [Option.map_some, Addr.add_lit] at s4 s2
  have hf4 := fun k => four_calls (w.drewN k) _ _ _ _ (s4.drewN k) (by omega)
  have hf2 := fun k => two_calls (w.drewN k) _ _ _ _ (s2.drewN k) (by omega)
  simp only [f4_drop] at hf4
  simp only [f2_drop] at hf2
  have hraw : rawV bs n i = f4 bs (oG n + 4 * (i / 2048)) + f2 bs (oS n + 2 * (i / 256)) + (cntB (datB bs) i - cntB (datB bs) (i / 256 * 256)) := rfl
  have b4 := f4_lt bs (oG n + 4 * (i / 2048))
  have b2 := f2_lt bs (oS n + 2 * (i / 256))
  obtain ⟨x4, hx4⟩ : ∃ x, x = f4 bs (oG n + 4 * (i / 2048)) := ⟨_, rfl⟩
  obtain ⟨x2, hx2⟩ : ∃ x, x = f2 bs (oS n + 2 * (i / 256)) := ⟨_, rfl⟩
  rw [← hx4] at hf4 hraw b4
  rw [← hx2] at hf2 hraw b2
  have hcb := fun j => cell_bytes h.sl j
  have HF4 := Lib.hid hf4
  have HF2 := Lib.hid hf2
  have HR := Lib.hid hraw
  have HCB := Lib.hid hcb
  clear h s4 s2 hf4 hf2 hraw hfit hcb hx4 hx2
  obtain ⟨G, hG⟩ : ∃ G, G = oG n := ⟨_, rfl⟩
  obtain ⟨Sm, hSm⟩ : ∃ S, S = oS n := ⟨_, rfl⟩
  rw [← hG] at *
  rw [← hSm] at *
  go_enter Try.func63, Try.ntmps63
  go_wp2_with fail
  go_quiet (first
    | (go_at_call 99; exact quiet_dr (HF4.out _))
    | (go_at_call 100; exact quiet_dr (HF2.out _)))
  go_wp2_with fail
  obtain ⟨F, hF⟩ : ∃ F, F = i / 256 * 256 := ⟨_, rfl⟩
  have HFF := Lib.hid hF
  clear hF
  go_loopw [5, 7] (fun rv tv wr => ∃ (A R k : Nat), tv = .int .i64 (A : Nat) ∧ F ≤ A ∧ A ≤ i ∧ A % 8 = 0 ∧ rv = .int .i64 (R : Nat) ∧ R = x4 + x2 + (cntB (datB bs) A - cntB (datB bs) F) ∧ wr = w.drewN k) (fun _ tv _ => i - (intOf tv).toNat)
  case atStart => exact ⟨F, x4 + x2, nq, by rw [HFF.out]; go_num, Nat.le_refl _, by rw [HFF.out]; omega, by rw [HFF.out]; omega, by go_num, by omega, rfl⟩
  case round =>
    obtain ⟨A, R, k, rfl, hFA, hAi, hA8, rfl, hR, hk⟩ := hrel
    have hcell : wr.cell? ⟨b, o + (8 + A / 8), none⟩ = some (.int .u8 ((bs.getD (8 + A / 8) 0).toNat : Nat)) := by rw [hk]; exact HCB.out (8 + A / 8) (by omega)
    have r0 : wr.cell? ⟨gv, 0, none⟩ = some (.slice (some ⟨b, o, none⟩) bs.length c) := by rw [hk]; exact k0
    have r3 : wr.cell? ⟨gv, 3, none⟩ = some (.int .i64 8) := by rw [hk]; exact k3
    have HK := Lib.hid hk
    clear hk
    have hcm := cnt_mono (datB bs) hFA
    have hca := cnt_le (datB bs) A
    have HRR := Lib.hid hR
    have hRb : R ≤ 4294967296 + 65536 + 67108864 := by omega
    have hdat : bs.getD (8 + A / 8) 0 = (datB bs).getD (A / 8) 0 := by unfold datB; rw [drop_getD]
    rw [hdat] at hcell
    obtain ⟨y, hy⟩ : ∃ y : Nat, y = ((datB bs).getD (A / 8) 0).toNat := ⟨_, rfl⟩
    rw [← hy] at hcell
    have hy2 : y ≤ 255 := by rw [hy]; have := UInt8.toNat_lt ((datB bs).getD (A / 8) 0); omega
    by_cases hin : A + 8 ≤ i
    · obtain ⟨t, ht⟩ : ∃ t, t = Lib.onesCount y := ⟨_, rfl⟩
      have hcall := fun w => Try.bits_OnesCount8 (y : Int) w (by omega) (by omega)
      rw [Int.toNat_natCast, ← ht] at hcall
      have hcb := cnt_byte (datB bs) (A / 8)
      rw [← hy, ← ht, show 8 * (A / 8) = A by omega] at hcb
      have hle := cnt_le (datB bs) (A + 8)
      have hq := fun q => (hcall (wr.drewN q)).mono fun e w' (h : e = _ ∧ w' = wr.drewN q) => (show e = _ ∧ ∃ m, w' = wr.drewN m from ⟨h.1, q, h.2⟩)
      have HQ := Lib.hid hq
      have HCBY := Lib.hid hcb
      have htb : t ≤ 8 := by have := cnt_add (datB bs) A 8; omega
      clear hcall hcb hq hy ht hdat hR hle k0 k1 k3 k4 k5
      go_wp2_with fail
      go_quiet ((go_at_call 101; exact HQ.out _))
      go_wp2_with fail
      go_roundw
      case rel => exact ⟨A + 8, R + t, k + nq, by go_num, by omega, hin, by omega, by go_num, by rw [HRR.out, HCBY.out]; omega, by rw [HK.out]; simp [World.drewN, Nat.add_assoc]⟩
      case measure => simp [intOf]; omega
    · have hAq : A = 8 * (A / 8) := by omega
      have hiq : i = 8 * (A / 8) + i % 8 := by omega
      have hm8 : i % 8 < 8 := by omega
      have hlow := cnt_low (datB bs) (A / 8) (i % 8) hm8
      rw [← hAq, ← hy] at hlow
      have hiA : A + i % 8 = i := by omega
      rw [hiA] at hlow
      have hand := mask_and ⟨y, by omega⟩ ⟨i % 8, hm8⟩
      simp only at hand
      obtain ⟨z, hz⟩ : ∃ z, z = y % 2 ^ (i % 8) := ⟨_, rfl⟩
      rw [← hz] at hand hlow
      have hz2 : z ≤ 255 := by rw [hz]; exact Nat.le_trans (Nat.mod_le _ _) hy2
      obtain ⟨t, ht⟩ : ∃ t, t = Lib.onesCount z := ⟨_, rfl⟩
      rw [← ht] at hlow
      have hcall := fun w => Try.bits_OnesCount8 (z : Int) w (by omega) (by omega)
      rw [Int.toNat_natCast, ← ht] at hcall
      have hq := fun q => (hcall (wr.drewN q)).mono fun e w' (h : e = _ ∧ w' = wr.drewN q) => (show e = _ ∧ ∃ m, w' = wr.drewN m from ⟨h.1, q, h.2⟩)
      have HQ := Lib.hid hq
      have hle := cnt_le (datB bs) i
      have hAi8 : A / 8 = i / 8 := by omega
      have hRt : R + t = rawV bs n i := by rw [HR.out, HRR.out, ← HFF.out, hlow]; omega
      have hRt2 : R + t ≤ 4400000000 := by omega
      have HRT := Lib.hid hRt
      rw [hAi8] at hcell
      have hw1 : IntKind.i64.wrap ((i : Int) / 8) = (i : Int) / 8 := by rw [IntKind.wrap_i64]; omega
      have hw2 : IntKind.i64.wrap (8 + (i : Int) / 8) = 8 + (i : Int) / 8 := by rw [IntKind.wrap_i64]; omega
      have hw3 : (i : Int) % 8 = ((i % 8 : Nat) : Int) := rfl
      have hbi : i ≤ 67108864 := by omega
      have htn : (8 + (i : Int) / 8).toNat = 8 + i / 8 := by omega
      have htm : ((i : Int) % 8).toNat = i % 8 := by omega
      have hp7 : 2 ^ (i % 8) ≤ 128 := pow7 hm8
      have hp0 : 1 ≤ 2 ^ (i % 8) := Nat.one_le_two_pow
      have hpz : ((2 : Int) ^ (i % 8)) = ((2 ^ (i % 8) : Nat) : Int) := by rw [Int.natCast_pow]; rfl
      have hw5 : IntKind.u8.wrap ((2 : Int) ^ (i % 8)) = (2 : Int) ^ (i % 8) := by rw [hpz, IntKind.wrap_u8]; omega
      have hw6 : IntKind.u8.wrap ((2 : Int) ^ (i % 8) - 1) = (2 : Int) ^ (i % 8) - 1 := by rw [hpz, IntKind.wrap_u8]; omega
      clear hpz hp7 hp0
      have hix : 8 + i / 8 < bs.length := by omega
      have hix2 : (8 : Int) + (i : Int) / 8 < (bs.length : Int) := by omega
      have hix3 : (0 : Int) ≤ 8 + (i : Int) / 8 := by omega
      clear hcall hq hy ht hdat hR hle k0 k1 k3 k4 k5 hlow hz hAq hiq hiA hRt hAi8
      go_wp2_with fail
      have htr : ((i : Int).tmod 8) = (i : Int) % 8 := Int.tmod_eq_emod_of_nonneg (by omega)
      have hw7 : IntKind.i64.wrap ((R : Int) + (t : Int)) = (R : Int) + (t : Int) := by rw [IntKind.wrap_i64]; omega
      have hmin : min (i % 8) 8 = i % 8 := by omega
      have htz : (0 : Int) ≤ (i : Int) % 8 := by omega
      clear HF4 HF2 HR HCB hG hSm hw3
      refine wp_region_quiet_all (fun w' => ∃ q, w' = wr.drewN q) (by kernel_rfl) (by kernel_rfl) ⟨1, rfl⟩ ?_
      refine wq_val (.int .i64 (R : Nat)) rfl (fun w' _ => by simp [go_sem]) ?_
      refine wq_val (.pointer (some ⟨gv, 0, none⟩)) rfl (fun w' _ => by simp [go_sem]) ?_
      refine wq_val (.pointer (some ⟨gv, 0, none⟩)) rfl (fun w' _ => by simp [go_sem]) ?_
      simp only [go_sem, List.setIfInBounds_toArray, List.set_cons_succ, List.set_cons_zero]
      refine wq_val (.pointer (some ⟨gv, 0, none⟩)) rfl (fun w' _ => by simp [go_sem]) ?_
      refine wq_val (.slice (some ⟨b, o, none⟩) bs.length c) rfl (fun w' h => by obtain ⟨q, rfl⟩ := h; simp [go_sem, r0]) ?_
      simp only [go_sem, List.setIfInBounds_toArray, List.set_cons_succ, List.set_cons_zero]
      refine wq_val (.pointer (some ⟨gv, 0, none⟩)) rfl (fun w' _ => by simp [go_sem]) ?_
      simp only [go_sem, List.setIfInBounds_toArray, List.set_cons_succ, List.set_cons_zero]
      refine wq_val (.pointer (some ⟨gv, 0, none⟩)) rfl (fun w' _ => by simp [go_sem]) ?_
      refine wq_val (.pointer (some ⟨gv, 3, none⟩)) rfl (fun w' _ => by simp [go_sem]) ?_
      refine wq_val (.pointer (some ⟨gv, 3, none⟩)) rfl (fun w' _ => by simp [go_sem]) ?_
      simp only [go_sem, List.setIfInBounds_toArray, List.set_cons_succ, List.set_cons_zero]
      refine wq_val (.int .i64 8) rfl (fun w' h => by obtain ⟨q, rfl⟩ := h; simp [go_sem, r3]) ?_
      simp only [go_sem, List.setIfInBounds_toArray, List.set_cons_succ, List.set_cons_zero]
      refine wq_val (.int .i64 (i : Nat)) rfl (fun w' _ => by simp [go_sem]) ?_
      refine wq_val (.int .i64 ((i : Int) / 8)) rfl (fun w' _ => by simp [go_sem, hw1]) ?_
      simp only [go_sem, List.setIfInBounds_toArray, List.set_cons_succ, List.set_cons_zero]
      refine wq_val (.int .i64 (8 + (i : Int) / 8)) rfl (fun w' _ => by simp [go_sem, hw2]) ?_
      refine wq_val (.pointer (some ⟨b, o + (8 + i / 8), none⟩)) rfl (fun w' _ => by simp [go_sem, hix2, hix3, htn]) ?_
      refine wq_val (.int .u8 (y : Nat)) rfl (fun w' h => by obtain ⟨q, rfl⟩ := h; simp [go_sem, hcell]) ?_
      simp only [go_sem, List.setIfInBounds_toArray, List.set_cons_succ, List.set_cons_zero]
      refine wq_val (.int .i64 (i : Nat)) rfl (fun w' _ => by simp [go_sem]) ?_
      refine wq_val (.int .i64 ((i : Int) % 8)) rfl (fun w' _ => by simp [go_sem, htr]) ?_
      refine wq_val (.int .u8 ((2 : Int) ^ (i % 8))) rfl (fun w' _ => by simp [go_sem, htm, hw5, hmin, htz]) ?_
      simp only [go_sem, List.setIfInBounds_toArray, List.set_cons_succ, List.set_cons_zero]
      refine wq_val (.int .u8 ((2 : Int) ^ (i % 8) - 1)) rfl (fun w' _ => by simp [go_sem, hw6]) ?_
      refine wq_val (.int .u8 (z : Nat)) rfl (fun w' _ => by simp [go_sem, hand]) ?_
      refine wq_call (.int .i64 (t : Nat)) 101 #[.int .u8 (z : Nat)] rfl (fun w' => by simp [go_sem]) (fun w' h => by obtain ⟨q, rfl⟩ := h; exact HQ.out q) ?_
      simp only [go_sem, List.setIfInBounds_toArray, List.set_cons_succ, List.set_cons_zero]
      refine wq_val (.int .i64 ((R : Int) + (t : Int))) rfl (fun w' _ => by simp [go_sem, hw7]) ?_
      refine wq_val (.int .i64 ((R : Int) + (t : Int))) rfl (fun w' _ => by simp [go_sem]) ?_
      simp only [go_sem, List.setIfInBounds_toArray, List.set_cons_succ, List.set_cons_zero]
      refine wpQuiet_nil ?_
      rintro _ ⟨q9, rfl⟩
      go_wp2_with fail
      go_ret
      refine ⟨ret_int ?_, ?_⟩
      · rw [← HRT.out]; omega
      · rw [HK.out]; exact ⟨k + q9, by simp [World.drewN, Nat.add_assoc]⟩
theorem rank_calls {w gv a c bs n m} (h : VecAt w gv a c bs n m) (i : Int) (hw : -9223372036854775808 ≤ i ∧ i ≤ 9223372036854775807) : Calls Try.prog 63 #[.pointer (some ⟨gv, 0, none⟩), .int .i64 i] w fun e w' => e = .returned (.int .i64 (rankV bs n m i : Nat)) ∧ ∃ k, w' = w.drewN k := by
  unfold rankV
  have k1 := h.k1
  have k2 := h.k2
  by_cases h1 : i ≤ 0
  · rw [if_pos (.inl h1)]
    clear h
    go_enter Try.func63, Try.ntmps63
    go_wp2
    go_ret
    exact ⟨rfl, 0, rfl⟩
  by_cases h2 : n = 0
  · rw [if_pos (.inr h2)]
    subst h2
    clear h
    go_enter Try.func63, Try.ntmps63
    go_wp2
    go_ret
    exact ⟨rfl, 0, rfl⟩
  rw [if_neg (fun hh => by rcases hh with hh | hh; exact h1 hh; exact h2 hh)]
  by_cases h3 : (n : Int) ≤ i
  · rw [if_pos h3]
    clear h
    have e1 : ((n : Int) == 0) = false := beq_false_of_ne (by omega)
    go_enter Try.func63, Try.ntmps63
    go_wp2
    go_ret
    exact ⟨rfl, 0, rfl⟩
  · rw [if_neg h3]
    obtain ⟨k, rfl⟩ : ∃ k : Nat, i = k := ⟨i.toNat, by omega⟩
    rw [Int.toNat_natCast]
    exact rank_in h k (by omega) (by omega)
end Go.Proofs.Ytgajpekolamjbaa
