/- Rank0, Bit, search, Select, Select0. -/
import Derived.Test.YtgajpekolamjbaaRkV
set_option linter.unusedVariables false
set_option linter.unusedSimpArgs false
namespace Go.Tk
open Go Go.RowKit
def rank0V (bs : List UInt8) (n m : Nat) (i : Int) : Int := if i ≤ 0 then 0 else min i n - rankV bs n m i
theorem rank_le (bs : List UInt8) (n m : Nat) (hmn : m ≤ n) (i : Int) (h : 0 ≤ i) : (rankV bs n m i : Int) ≤ min i n := by
  unfold rankV
  split
  · omega
  split
  · omega
  · omega
theorem rank0_bd (bs : List UInt8) (n m : Nat) (hmn : m ≤ n) (i : Int) : 0 ≤ rank0V bs n m i ∧ rank0V bs n m i ≤ n := by
  unfold rank0V
  split
  · omega
  · have := rank_le bs n m hmn i (by omega); omega
/-- The search's answer. -/
def srchF (cf : Nat → Int) (k : Int) : Nat → Nat → Nat → Nat
  | 0, lo, _ => lo
  | f + 1, lo, hi => if lo < hi then (if k < cf ((lo + hi) / 2 + 1) then srchF cf k f lo ((lo + hi) / 2) else srchF cf k f ((lo + hi) / 2 + 1) hi) else lo
theorem srch_fuel (cf : Nat → Int) (k : Int) : ∀ (f g lo hi : Nat), hi - lo ≤ f → hi - lo ≤ g → srchF cf k f lo hi = srchF cf k g lo hi
  | 0, g, lo, hi, h, _ => by
    cases g with
    | zero => rfl
    | succ g => simp only [srchF]; rw [if_neg (by omega)]
  | f + 1, 0, lo, hi, _, h => by simp only [srchF]; rw [if_neg (by omega)]
  | f + 1, g + 1, lo, hi, h1, h2 => by
    simp only [srchF]
    split
    · split
      · exact srch_fuel cf k f g _ _ (by omega) (by omega)
      · exact srch_fuel cf k f g _ _ (by omega) (by omega)
    · rfl
theorem srch_bd (cf : Nat → Int) (k : Int) : ∀ (f lo hi : Nat), lo ≤ hi → lo ≤ srchF cf k f lo hi ∧ srchF cf k f lo hi ≤ hi
  | 0, lo, hi, h => ⟨Nat.le_refl _, h⟩
  | f + 1, lo, hi, h => by
    simp only [srchF]
    split
    · split
      · have := srch_bd cf k f lo ((lo + hi) / 2) (by omega); omega
      · have := srch_bd cf k f ((lo + hi) / 2 + 1) hi (by omega); omega
    · omega
/-- Where the counts grow, the first place behind which more than k are counted. -/
theorem srch_least (cf : Nat → Int) (k : Int) (hm : ∀ i j, i ≤ j → cf i ≤ cf j) : ∀ (f lo hi : Nat), hi - lo ≤ f → lo ≤ hi → k < cf (hi + 1) → (∀ j, j < lo → cf (j + 1) ≤ k) → k < cf (srchF cf k f lo hi + 1) ∧ ∀ j, j < srchF cf k f lo hi → cf (j + 1) ≤ k
  | 0, lo, hi, h, hl, hk, hb => by
    obtain rfl : lo = hi := by omega
    exact ⟨hk, hb⟩
  | f + 1, lo, hi, h, hl, hk, hb => by
    simp only [srchF]
    split
    · split
      · rename_i h2
        exact srch_least cf k hm f lo ((lo + hi) / 2) (by omega) (by omega) h2 hb
      · rename_i h2
        refine srch_least cf k hm f ((lo + hi) / 2 + 1) hi (by omega) (by omega) hk (fun j hj => ?_)
        have := hm (j + 1) ((lo + hi) / 2 + 1) (by omega)
        omega
    · obtain rfl : lo = hi := by omega
      exact ⟨hk, hb⟩
def selV (cf : Nat → Int) (n : Nat) (k : Int) (most : Int) : Int := if k < 0 ∨ most ≤ k then -1 else (srchF cf k n 0 (n - 1) : Nat)
end Go.Tk
namespace Go.Proofs.Ytgajpekolamjbaa
open Go.RowKit Go.Tk
set_option maxRecDepth 100000 in
set_option maxHeartbeats 1000000 in
theorem search_calls {w gv a c bs n m} (h : VecAt w gv a c bs n m) (hn : 0 < n) (F : FuncId) (hcf : ∀ (p : Value) (q : Int) (w : World), (callFunc F #[p, .int .i64 q]).run Try.prog w = .ok (.enter F #[p, .int .i64 q]) w) (cf : Nat → Int) (k : Int)
    (hF : ∀ w' j, VecAt w' gv a c bs n m → j ≤ 67108864 → Calls Try.prog F #[.pointer (some ⟨gv, 0, none⟩), .int .i64 (j : Nat)] w' fun e w'' => e = .returned (.int .i64 (cf j)) ∧ ∃ q, w'' = w'.drewN q) :
    Calls Try.prog 114 #[.pointer (some ⟨gv, 0, none⟩), .int .i64 k, .func (.func F) #[.pointer (some ⟨gv, 0, none⟩)] #[]] w fun e w' => e = .returned (.int .i64 (srchF cf k n 0 (n - 1) : Nat)) ∧ ∃ q, w' = w.drewN q := by
  have k1 := h.k1
  have hnN := h.nN
  have HV := Lib.hid h
  have HF := Lib.hid hF
  clear h hF
  go_enter Try.func114, Try.ntmps114
  go_wp2_with fail
  go_quiet (fail)
  go_wp2_with fail
  go_loopw [7, 8] (fun lv hv wr => ∃ lo hi : Nat, lv = .int .i64 (lo : Nat) ∧ hv = .int .i64 (hi : Nat) ∧ lo ≤ hi ∧ hi < n ∧ srchF cf k n 0 (n - 1) = srchF cf k n lo hi ∧ ∃ q, wr = w.drewN q) (fun lv hv _ => (intOf hv).toNat - (intOf lv).toNat)
  case atStart => exact ⟨0, n - 1, rfl, by rw [Int.natCast_sub (by omega)]; rfl, by omega, by omega, rfl, nq, rfl⟩
  case round =>
    obtain ⟨lo, hi, rfl, rfl, hlh, hhn, hs, q, hq⟩ := hrel
    have hv : VecAt wr gv a c bs n m := by rw [hq]; exact HV.out.drewN q
    have HVR := Lib.hid hv
    have HQ := Lib.hid hq
    have HSS := Lib.hid hs
    clear hv hq hs k1
    by_cases hlt : lo < hi
    · have hc := HF.out wr ((lo + hi) / 2 + 1) HVR.out (by omega)
      rw [Int.natCast_add, Int.natCast_ediv, Int.natCast_add, show ((2 : Nat) : Int) = 2 from rfl, show ((1 : Nat) : Int) = 1 from rfl] at hc
      obtain ⟨M, hM⟩ : ∃ M, M = (lo + hi) / 2 := ⟨_, rfl⟩
      obtain ⟨x, hx⟩ : ∃ x, x = cf ((lo + hi) / 2 + 1) := ⟨_, rfl⟩
      rw [← hx] at hc
      have hstep : srchF cf k n lo hi = if k < x then srchF cf k n lo M else srchF cf k n (M + 1) hi := by
        rw [hx, hM]
        obtain ⟨f, rfl⟩ : ∃ f, n = f + 1 := ⟨n - 1, by omega⟩
        conv => lhs; simp only [srchF]
        rw [if_pos hlt]
        split
        · exact srch_fuel _ _ _ _ _ _ (by omega) (by omega)
        · exact srch_fuel _ _ _ _ _ _ (by omega) (by omega)
      have HC := Lib.hid hc
      have HST := Lib.hid hstep
      have HM := Lib.hid hM
      have hMb : lo ≤ (lo + hi) / 2 ∧ (lo + hi) / 2 < hi := by omega
      clear hc hstep hM hx
      have hcast : (((lo + hi) / 2 : Nat) : Int) = ((lo : Int) + (hi : Int)) / 2 := by omega
      by_cases hxk : k < x
      · go_wp2_with ((with_reducible refine HC.out.mono ?_); rintro e w5 ⟨rfl, q5, rfl⟩)
        go_roundw
        case rel => exact ⟨lo, (lo + hi) / 2, rfl, by rw [hcast], by omega, by omega, by rw [HSS.out, HST.out, if_pos hxk, HM.out], q + q5, by rw [HQ.out]; simp [World.drewN, Nat.add_assoc]⟩
        case measure => simp [intOf]; omega
      · go_wp2_with ((with_reducible refine HC.out.mono ?_); rintro e w5 ⟨rfl, q5, rfl⟩)
        go_roundw
        case rel => exact ⟨(lo + hi) / 2 + 1, hi, by rw [Int.natCast_add, hcast]; rfl, rfl, by omega, by omega, by rw [HSS.out, HST.out, if_neg (by omega), HM.out], q + q5, by rw [HQ.out]; simp [World.drewN, Nat.add_assoc]⟩
        case measure => simp [intOf]; omega
    · have hend : srchF cf k n lo hi = lo := by
        obtain ⟨f, rfl⟩ : ∃ f, n = f + 1 := ⟨n - 1, by omega⟩
        simp only [srchF]
        rw [if_neg hlt]
      have HEND := Lib.hid hend
      clear hend
      go_wp2
      go_ret
      exact ⟨by rw [HSS.out, HEND.out]; rfl, q, HQ.out⟩
theorem cf_rank (p : Value) (q : Int) (w : World) : (callFunc 63 #[p, .int .i64 q]).run Try.prog w = .ok (.enter 63 #[p, .int .i64 q]) w := by kernel_rfl
set_option maxRecDepth 100000 in
set_option maxHeartbeats 1000000 in
theorem select_calls {w gv a c bs n m} (h : VecAt w gv a c bs n m) (k : Int) (hw : -9223372036854775808 ≤ k ∧ k ≤ 9223372036854775807) : Calls Try.prog 104 #[.pointer (some ⟨gv, 0, none⟩), .int .i64 k] w fun e w' => e = .returned (.int .i64 (selV (fun j => (rankV bs n m (j : Nat) : Nat)) n k m)) ∧ ∃ q, w' = w.drewN q := by
  have k2 := h.k2
  have hmn := h.mn
  by_cases h1 : k < 0 ∨ (m : Int) ≤ k
  · have e : selV (fun j => (rankV bs n m (j : Nat) : Nat)) n k m = -1 := by unfold selV; rw [if_pos h1]
    rw [e]
    clear h e
    rcases h1 with h1 | h1
    · go_enter Try.func104, Try.ntmps104
      go_wp2
      go_ret
      exact ⟨rfl, 0, rfl⟩
    · have h0 : ¬ k < 0 := by omega
      go_enter Try.func104, Try.ntmps104
      go_wp2
      go_ret
      exact ⟨rfl, 0, rfl⟩
  · have e : selV (fun j => (rankV bs n m (j : Nat) : Nat)) n k m = (srchF (fun j => (rankV bs n m (j : Nat) : Nat)) k n 0 (n - 1) : Nat) := by unfold selV; rw [if_neg h1]
    rw [e]
    have hs := search_calls h (by omega) 63 cf_rank (fun j => (rankV bs n m (j : Nat) : Nat)) k (fun w' j hv hj => rank_calls hv (j : Nat) (by omega))
    have h0 : ¬ k < 0 := by omega
    have h2 : ¬ (m : Int) ≤ k := by omega
    have hmf : ∀ (fn : Fn) (first cap : Array Value) (w : World), (Instr.makeFunc fn first cap).run Try.prog w = .ok (.func fn first cap) w := fun _ _ _ _ => rfl
    have HS := Lib.hid hs
    clear h hs e h1
    go_enter Try.func104, Try.ntmps104
    go_wp2_with (go_at_call 114; (with_reducible refine HS.out.mono ?_); rintro e w5 ⟨rfl, q5, rfl⟩)
    go_ret
    exact ⟨rfl, _, rfl⟩
set_option maxRecDepth 100000 in
set_option maxHeartbeats 1000000 in
theorem vbit_calls {w gv a c bs n m} (h : VecAt w gv a c bs n m) (i : Int) (hw : -9223372036854775808 ≤ i ∧ i ≤ 9223372036854775807) : Calls Try.prog 94 #[.pointer (some ⟨gv, 0, none⟩), .int .i64 i] w fun e w' => e = .returned (.bool (decide (0 ≤ i) && decide (i < n) && btB (datB bs) i.toNat)) ∧ ∃ q, w' = w.drewN q := by
  have k0 := h.k0
  have k1 := h.k1
  have k3 := h.k3
  by_cases h0 : 0 ≤ i
  · by_cases h1 : i < n
    · obtain ⟨j, rfl⟩ : ∃ j : Nat, i = j := ⟨i.toNat, by omega⟩
      have hfit := h.fit
      have hnN := h.nN
      have hix : 8 + j / 8 < bs.length := by rw [hfit]; unfold oE oM oS oG; omega
      have hbig : bs.length ≤ 100000000 := by have := h.mn; rw [hfit]; unfold oE oM oS oG; omega
      obtain ⟨b, o, rfl, hc⟩ := byte_cell h.sl (8 + j / 8) hix
      have hlen := h.sl.le
      have hdat : bs.getD (8 + j / 8) 0 = (datB bs).getD (j / 8) 0 := by unfold datB; rw [drop_getD]
      rw [hdat] at hc
      obtain ⟨y, hy⟩ : ∃ y : Nat, y = ((datB bs).getD (j / 8) 0).toNat := ⟨_, rfl⟩
      rw [← hy] at hc
      have hy2 : y ≤ 255 := by rw [hy]; have := UInt8.toNat_lt ((datB bs).getD (j / 8) 0); omega
      have e1 := bit_and ⟨y, by omega⟩ ⟨j % 8, by omega⟩
      have e2 := bit_mod ⟨y, by omega⟩ ⟨j % 8, by omega⟩
      simp only at e1 e2
      have hres : btB (datB bs) (j : Int).toNat = y.testBit (j % 8) := by
        rw [Int.toNat_natCast]; unfold btB; rw [hy]
      have e3 : decide ((0 : Int) ≤ (j : Nat)) = true := by simp
      have e4 : decide (((j : Nat) : Int) < n) = true := by simpa using h1
      rw [hres, e3, e4]
      generalize y.testBit (j % 8) = r at e1 e2
      simp only [Bool.and_true, Bool.true_and, Bool.and_self]
      clear hres hy h hdat hfit e3 e4
      go_enter Try.func94, Try.ntmps94
      go_wp2_with fail
      go_quiet (fail)
      go_wp2
      go_ret
      exact ⟨rfl, _, rfl⟩
    · have e4 : decide (i < n) = false := by simpa using h1
      rw [e4, Bool.and_false, Bool.false_and]
      clear h
      go_enter Try.func94, Try.ntmps94
      go_wp2_with fail
      go_quiet (fail)
      go_wp2
      go_ret
      exact ⟨rfl, _, rfl⟩
  · have e4 : decide (0 ≤ i) = false := by simpa using h0
    rw [e4, Bool.false_and, Bool.false_and]
    clear h
    go_enter Try.func94, Try.ntmps94
    go_wp2_with fail
    go_quiet (fail)
    go_wp2
    go_ret
    exact ⟨rfl, _, rfl⟩
end Go.Proofs.Ytgajpekolamjbaa
