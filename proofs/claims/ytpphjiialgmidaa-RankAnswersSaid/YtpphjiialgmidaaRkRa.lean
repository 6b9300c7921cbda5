/- The document's Count, Rank, Rank0, Select, Each. -/
import Derived.Test.YtpphjiialgmidaaRkWk
import Derived.Test.YtpphjiialgmidaaRkRc
import Derived.Test.YtpphjiialgmidaaRankInverse
set_option linter.unusedVariables false
set_option linter.unusedSimpArgs false
namespace Go.Proofs.Ytpphjiialgmidaa
open Go.RowKit Go.Tk
theorem rrank_calls (w : World) (a : Option Addr) (n c : Nat) (d : List UInt8) (N : Nat) (h : SlI .u8 w a n c (nums d)) (hN : N ≤ 67108864) (hl : N ≤ 8 * d.length) (i : Int) :
    Calls Try.prog 52 #[.slice a n c, .int .i64 (N : Nat), .int .i64 i] w fun e w' => e = .returned (.int .i64 (cntB d (min i.toNat N) : Nat)) ∧ w = w' := by
  have hc := rcount_calls w a n c d (min i.toNat N) h (by omega) (by omega)
  rw [show ((min i.toNat N : Nat) : Int) = max 0 (min i (N : Nat)) by omega] at hc
  have HC := Lib.hid hc
  clear h hc
  go_enter Try.func52, Try.ntmps52
  go_wp2_with (go_at_call 51; (with_reducible refine HC.out.mono ?_); rintro e wz ⟨rfl, rfl⟩)
  go_ret
  exact ⟨rfl, rfl⟩
theorem rrank0_calls (w : World) (a : Option Addr) (n c : Nat) (d : List UInt8) (N : Nat) (h : SlI .u8 w a n c (nums d)) (hN : N ≤ 67108864) (hl : N ≤ 8 * d.length) (i : Int) :
    Calls Try.prog 53 #[.slice a n c, .int .i64 (N : Nat), .int .i64 i] w fun e w' => e = .returned (.int .i64 (min i.toNat N - cntB d (min i.toNat N) : Nat)) ∧ w = w' := by
  have hc := rrank_calls w a n c d N h hN hl i
  have hle := cnt_le d (min i.toNat N)
  have hmx : max 0 (min i (N : Nat)) = ((min i.toNat N : Nat) : Int) := by omega
  obtain ⟨x, hx⟩ : ∃ x, x = cntB d (min i.toNat N) := ⟨_, rfl⟩
  obtain ⟨y, hy⟩ : ∃ y, y = min i.toNat N := ⟨_, rfl⟩
  rw [← hx] at hc hle ⊢
  rw [← hy] at hle hmx ⊢
  have hyN : y ≤ 67108864 := by omega
  have HC := Lib.hid hc
  clear h hc hx hy
  go_enter Try.func53, Try.ntmps53
  go_wp2_with (go_at_call 52; (with_reducible refine HC.out.mono ?_); rintro e wz ⟨rfl, rfl⟩)
  go_ret
  exact ⟨ret_int (by omega), rfl⟩
/-- What Select finds. -/
def SelR (f : Nat → Bool) (N : Nat) (k r : Int) : Prop := (∃ v : Nat, v < N ∧ f v = true ∧ ((cF f v : Nat) : Int) = k ∧ r = v) ∨ (r = -1 ∧ ∀ v, v < N → f v = true → ((cF f v : Nat) : Int) ≠ k)
theorem cF_le (f : Nat → Bool) : ∀ i, cF f i ≤ i
  | 0 => Nat.le_refl _
  | i + 1 => by have := cF_le f i; simp only [cF]; split <;> omega
set_option maxRecDepth 100000 in
set_option maxHeartbeats 2000000 in
theorem rselect_calls (w : World) (a : Option Addr) (n c : Nat) (d : List UInt8) (N : Nat) (h : SlI .u8 w a n c (nums d)) (hN : N ≤ 67108864) (hl : N ≤ 8 * d.length) (k : Int) (hk : -9223372036854775808 ≤ k ∧ k ≤ 9223372036854775807) (one : Bool) :
    Calls Try.prog 54 #[.slice a n c, .int .i64 (N : Nat), .int .i64 k, .bool one] w fun e w' => ∃ r, e = .returned (.int .i64 r) ∧ SelR (fun j => btB d j == one) N k r ∧ w = w' := by
  have hb := fun (i : Nat) (hi : i < N) => bit_calls w a n c d i h (by omega) (by omega)
  have HB := Lib.hid hb
  clear h hb
  obtain ⟨f, hf⟩ : ∃ f, f = fun j => btB d j == one := ⟨_, rfl⟩
  have hfj : ∀ j, f j = (btB d j == one) := fun j => by rw [hf]
  rw [← hf]
  have HF := Lib.hid hfj
  clear hf hfj
  go_enter Try.func54, Try.ntmps54
  go_wp2
  go_loop [2, 9] (fun kv iv => ∃ (i : Nat) (q : Int), iv = .int .i64 (i : Nat) ∧ i ≤ N ∧ kv = .int .i64 q ∧ q = wrap64 (k - (cF f i : Nat)) ∧ ∀ v, v < i → f v = true → ((cF f v : Nat) : Int) ≠ k) (fun _ iv => N - (intOf iv).toNat)
  case atStart => exact ⟨0, k, rfl, Nat.zero_le _, rfl, by simp only [cF]; unfold wrap64; omega, fun v hv => by omega⟩
  case round =>
    obtain ⟨i, q, rfl, hi, rfl, hq, hno⟩ := hrel
    have hcm := cF_le f i
    have HQ := Lib.hid hq
    have HNO := Lib.hid hno
    clear hq hno
    by_cases hin : i < N
    · have hbi := HB.out i hin
      have hfi := HF.out i
      have hs : cF f (i + 1) = cF f i + (if f i = true then 1 else 0) := rfl
      obtain ⟨B, hB⟩ : ∃ B, B = btB d i := ⟨_, rfl⟩
      rw [← hB] at hbi hfi
      have HBI := Lib.hid hbi
      by_cases hbo : B = one
      · subst hbo
        have hfit : f i = true := by rw [hfi]; simp
        rw [if_pos hfit] at hs
        have e1 : (B != B) = false := by simp
        by_cases hq0 : q = 0
        · have hkc : ((cF f i : Nat) : Int) = k := by have := HQ.out; unfold wrap64 at this; omega
          have e2 : (q == 0) = true := by simp [hq0]
          have HRES := Lib.hid (show SelR f N k (i : Nat) from .inl ⟨i, hin, hfit, hkc, rfl⟩)
          clear hbi hB hs hfit hfi hkc hcm
          go_wp2_with (go_at_call 36; (with_reducible refine HBI.out.mono ?_); rintro e wz ⟨rfl, rfl⟩)
          go_ret
          exact ⟨_, rfl, HRES.out, rfl⟩
        · have e2 : (q == 0) = false := by simp [hq0]
          have hnx : wrap64 (q - 1) = wrap64 (k - ((cF f (i + 1) : Nat) : Int)) := by have := HQ.out; rw [hs]; unfold wrap64 at this ⊢; omega
          have hno2 : ∀ v, v < i + 1 → f v = true → ((cF f v : Nat) : Int) ≠ k := fun v hv hfv => by
            by_cases hvi : v = i
            · subst hvi
              intro hk0
              apply hq0
              rw [HQ.out, hk0]
              unfold wrap64; omega
            · exact HNO.out v (by omega) hfv
          have HNX := Lib.hid hnx
          have HNO2 := Lib.hid hno2
          clear hbi hB hs hfit hfi hnx hno2 hcm
          go_wp2_with (go_at_call 36; (with_reducible refine HBI.out.mono ?_); rintro e wz ⟨rfl, rfl⟩)
          go_round
          case rel => exact ⟨i + 1, _, by go_num, by omega, rfl, HNX.out, HNO2.out⟩
          case measure => simp [intOf]; omega
      · have hff : f i = false := by rw [hfi]; simp [hbo]
        rw [hff] at hs
        simp at hs
        have e1 : (B == one) = false := by simp [hbo]
        have hno2 : ∀ v, v < i + 1 → f v = true → ((cF f v : Nat) : Int) ≠ k := fun v hv hfv => by
          by_cases hvi : v = i
          · subst hvi; rw [hff] at hfv; cases hfv
          · exact HNO.out v (by omega) hfv
        have HS := Lib.hid hs
        have HNO2 := Lib.hid hno2
        clear hbi hB hs hff hfi hno2 hcm hbo
        go_wp2_with (go_at_call 36; (with_reducible refine HBI.out.mono ?_); rintro e wz ⟨rfl, rfl⟩)
        go_round
        case rel => exact ⟨i + 1, q, by go_num, by omega, rfl, by rw [HS.out, HQ.out], HNO2.out⟩
        case measure => simp [intOf]; omega
    · obtain rfl : i = N := by omega
      have HRES := Lib.hid (show SelR f i k (-1) from .inr ⟨rfl, HNO.out⟩)
      clear hcm
      go_wp2
      go_ret
      exact ⟨_, rfl, HRES.out, rfl⟩
theorem selR_one {d : List UInt8} {N : Nat} {k r : Int} (hl : d.length = (N + 7) / 8) (hN : N ≤ 67108864) (h : SelR (fun j => btB d j == true) N k r) : r = selW d N k := by
  have hc : ∀ v, cF (fun j => btB d j == true) v = cntB d v := fun v => (cnt_cF d _ v (fun j _ => by simp)).symm
  rcases h with ⟨v, h1, h2, h3, rfl⟩ | ⟨rfl, h⟩
  · rw [hc] at h3
    rw [← h3, selW_at hl hN v h1 (by simpa using h2)]
  · by_cases hk : k < 0 ∨ (cntB d N : Int) ≤ k
    · rw [selW_no hk]
    · obtain ⟨u, rfl⟩ : ∃ u : Nat, k = u := ⟨k.toNat, by omega⟩
      obtain ⟨v, e1, e2, e3, e4⟩ := selW_yes hl hN u (by omega)
      exact absurd (by rw [hc, e4]) (h v e2 (by simpa using e3))
theorem cF_not (d : List UInt8) : ∀ v, cF (fun j => btB d j == false) v = v - cntB d v
  | 0 => rfl
  | v + 1 => by
    have ih := cF_not d v
    have hc := cnt_le d v
    simp only [cF, cntB]
    rw [ih]
    by_cases hb : btB d v = true
    · simp [hb]; try omega
    · have hb' : btB d v = false := by simpa using hb
      simp [hb']; try omega
theorem selR_nil {d : List UInt8} {N : Nat} {k r : Int} (hl : d.length = (N + 7) / 8) (hN : N ≤ 67108864) (h : SelR (fun j => btB d j == false) N k r) : r = sel0W d N k := by
  have hcN := cnt_le d N
  rcases h with ⟨v, h1, h2, h3, rfl⟩ | ⟨rfl, h⟩
  · rw [cF_not] at h3
    rw [← h3, sel0W_at hl hN v h1 (by simpa using h2)]
  · by_cases hk : k < 0 ∨ (N : Int) - (cntB d N : Nat) ≤ k
    · rw [sel0W_no hk]
    · obtain ⟨u, rfl⟩ : ∃ u : Nat, k = u := ⟨k.toNat, by omega⟩
      obtain ⟨v, e1, e2, e3, e4⟩ := sel0W_yes hl hN u (by omega)
      exact absurd (by rw [cF_not, e4]) (h v e2 (by simpa using e3))
end Go.Proofs.Ytpphjiialgmidaa
