/- utf.Next. -/
import Derived.Test.YthloijpnbljpeaaUtfS
import Derived.WalkSpells
import Derived.WalkLawsBesides
import Derived.Laws.Bits64
import Derived.BigQuiet
import Derived.Outline
set_option linter.unusedVariables false
set_option linter.unusedSimpArgs false
namespace Go.Tk
open Go Go.RowKit
theorem u8_and31 : ∀ c : Fin 256, bits .and .u8 (c.val : Int) 31 = ((c.val % 32 : Nat) : Int) := by decide +kernel
theorem u8_and15 : ∀ c : Fin 256, bits .and .u8 (c.val : Int) 15 = ((c.val % 16 : Nat) : Int) := by decide +kernel
theorem u8_and7 : ∀ c : Fin 256, bits .and .u8 (c.val : Int) 7 = ((c.val % 8 : Nat) : Int) := by decide +kernel
theorem u8_and63 : ∀ c : Fin 256, bits .and .u8 (c.val : Int) 63 = ((c.val % 64 : Nat) : Int) := by decide +kernel
theorem u8_and192 : ∀ c : Fin 256, bits .and .u8 (c.val : Int) 192 = ((c.val / 64 * 64 : Nat) : Int) := by decide +kernel
theorem b_and31 (b : UInt8) : bits .and .u8 (b.toNat : Int) 31 = (b.toNat : Int) % 32 := (u8_and31 ⟨b.toNat, UInt8.toNat_lt b⟩).trans (by simp)
theorem b_and15 (b : UInt8) : bits .and .u8 (b.toNat : Int) 15 = (b.toNat : Int) % 16 := (u8_and15 ⟨b.toNat, UInt8.toNat_lt b⟩).trans (by simp)
theorem b_and7 (b : UInt8) : bits .and .u8 (b.toNat : Int) 7 = (b.toNat : Int) % 8 := (u8_and7 ⟨b.toNat, UInt8.toNat_lt b⟩).trans (by simp)
theorem b_and63 (b : UInt8) : bits .and .u8 (b.toNat : Int) 63 = (b.toNat : Int) % 64 := (u8_and63 ⟨b.toNat, UInt8.toNat_lt b⟩).trans (by simp)
theorem b_and192 (b : UInt8) : bits .and .u8 (b.toNat : Int) 192 = (b.toNat : Int) / 64 * 64 := (u8_and192 ⟨b.toNat, UInt8.toNat_lt b⟩).trans (by simp)
/-- The scalar at a place. -/
def nextI (l : List UInt8) (x : Int) : Int × Nat := if x < 0 then (0, 0) else dec (l.drop x.toNat)
theorem nextI_neg {l : List UInt8} {x : Int} (h : x < 0) : nextI l x = (0, 0) := by unfold nextI; rw [if_pos h]
theorem nextI_out {l : List UInt8} {x : Int} (h : (l.length : Int) ≤ x) : nextI l x = (0, 0) := by
  unfold nextI; rw [if_neg (by omega), List.drop_of_length_le (by omega)]; rfl
theorem nextI_at {l : List UInt8} {k : Nat} : nextI l (k : Int) = dec (l.drop k) := by
  unfold nextI; rw [if_neg (by omega), Int.toNat_natCast]
end Go.Tk
namespace Go.Proofs.Ythloijpnbljpeaa
open Go.RowKit Go.Tk
theorem ret_ii {k k' : IntKind} {a b c d : Int} (h1 : a = b) (h2 : c = d) : Ending.returned (.tuple #[.int k a, .int k' c]) = .returned (.tuple #[.int k b, .int k' d]) := by rw [h1, h2]
theorem lead_x (x : Int) (w : World) (x0 : 0 ≤ x) (x1 : x < 256) (a1 : bits .and .u8 x 31 = x % 32) (a2 : bits .and .u8 x 15 = x % 16) (a3 : bits .and .u8 x 7 = x % 8) :
    Calls Try.prog 20 #[.int .u8 x] w fun e w' => e = .returned (.tuple #[.int .i64 (if x < 128 then 1 else if x < 192 then 0 else if x < 224 then 2 else if x < 240 then 3 else if x < 248 then 4 else 0),
      .int .i32 (if x < 128 then x else if x < 192 then 0 else if x < 224 then x % 32 else if x < 240 then x % 16 else if x < 248 then x % 8 else 0)]) ∧ w = w' := by
  by_cases h1 : x < 128
  · go_enter Try.func20, Try.ntmps20
    go_wp2
    go_ret2
    exact ⟨rfl, rfl⟩
  by_cases h2 : x < 192
  · go_enter Try.func20, Try.ntmps20
    go_wp2
    go_ret2
    exact ⟨rfl, rfl⟩
  by_cases h3 : x < 224
  · go_enter Try.func20, Try.ntmps20
    go_wp2
    go_ret2
    exact ⟨rfl, rfl⟩
  by_cases h4 : x < 240
  · go_enter Try.func20, Try.ntmps20
    go_wp2
    go_ret2
    exact ⟨rfl, rfl⟩
  by_cases h5 : x < 248
  · go_enter Try.func20, Try.ntmps20
    go_wp2
    go_ret2
    exact ⟨rfl, rfl⟩
  go_enter Try.func20, Try.ntmps20
  go_wp2
  go_ret2
  exact ⟨rfl, rfl⟩
theorem lead_calls (b : UInt8) (w : World) :
    Calls Try.prog 20 #[.int .u8 (b.toNat : Nat)] w fun e w' => e = .returned (.tuple #[.int .i64 (ldN b : Nat), .int .i32 (ldR b)]) ∧ w = w' := by
  refine (lead_x _ w (by omega) (by have := UInt8.toNat_lt b; omega) (b_and31 b) (b_and15 b) (b_and7 b)).mono fun e w' ⟨h, h'⟩ => ⟨h.trans (ret_ii ?_ ?_), h'⟩
  · unfold ldN; repeat' split
    all_goals omega
  · unfold ldR; repeat' split
    all_goals omega
theorem least_calls (n : Nat) (w : World) (h1 : 1 ≤ n) (h2 : n ≤ 4) :
    Calls Try.prog 21 #[.int .i64 (n : Nat)] w fun e w' => e = .returned (.int .i32 (leastI n)) ∧ w = w' := by
  have i1 : ∀ w, (Instr.index 58 (.agg #[.int .i32 0, .int .i32 0, .int .i32 128, .int .i32 2048, .int .i32 65536]) (.int .i64 1)).run Try.prog w = .ok (.int .i32 0) w := fun _ => by kernel_rfl
  have i2 : ∀ w, (Instr.index 58 (.agg #[.int .i32 0, .int .i32 0, .int .i32 128, .int .i32 2048, .int .i32 65536]) (.int .i64 2)).run Try.prog w = .ok (.int .i32 128) w := fun _ => by kernel_rfl
  have i3 : ∀ w, (Instr.index 58 (.agg #[.int .i32 0, .int .i32 0, .int .i32 128, .int .i32 2048, .int .i32 65536]) (.int .i64 3)).run Try.prog w = .ok (.int .i32 2048) w := fun _ => by kernel_rfl
  have i4 : ∀ w, (Instr.index 58 (.agg #[.int .i32 0, .int .i32 0, .int .i32 128, .int .i32 2048, .int .i32 65536]) (.int .i64 4)).run Try.prog w = .ok (.int .i32 65536) w := fun _ => by kernel_rfl
  obtain rfl | rfl | rfl | rfl : n = 1 ∨ n = 2 ∨ n = 3 ∨ n = 4 := by omega
  all_goals
    go_enter Try.func21, Try.ntmps21
    go_wp2
    go_ret
    exact ⟨rfl, rfl⟩
def bnd (i : Nat) : Int := if i = 1 then 256 else if i = 2 then 16384 else if i = 3 then 1048576 else 67108864
theorem bnd_le (i : Nat) : bnd i ≤ 67108864 := by unfold bnd; split; · omega
                                                  split; · omega
                                                  split <;> omega
theorem bnd_step {i : Nat} {r c : Int} (h1 : 1 ≤ i) (h2 : i < 4) (h : r < bnd i) (hc : c < 64) : r * 64 + c < bnd (i + 1) ∧ r < 1048576 := by
  obtain rfl | rfl | rfl : i = 1 ∨ i = 2 ∨ i = 3 := by omega
  all_goals simp [bnd] at h ⊢; omega
theorem dec_bad {b : UInt8} {t : List UInt8} (h : ldN b = 0 ∨ t.length + 1 < ldN b) : dec (b :: t) = (0, 0) := by simp only [dec]; rw [if_pos h]
theorem dec_cont {b : UInt8} {t : List UInt8} (h : contR (t.take (ldN b - 1)) (ldR b) = none) : dec (b :: t) = (0, 0) := by
  simp only [dec]; split; · rfl
  rw [h]
theorem dec_low {b : UInt8} {t : List UInt8} {r : Int} (h0 : ¬ (ldN b = 0 ∨ t.length + 1 < ldN b)) (h : contR (t.take (ldN b - 1)) (ldR b) = some r) (h2 : r < leastI (ldN b) ∨ scalarB r = false) : dec (b :: t) = (0, 0) := by
  simp only [dec]; rw [if_neg h0, h]; simp only; rw [if_pos h2]
theorem dec_good {b : UInt8} {t : List UInt8} {r : Int} (h0 : ¬ (ldN b = 0 ∨ t.length + 1 < ldN b)) (h : contR (t.take (ldN b - 1)) (ldR b) = some r) (h1 : ¬ r < leastI (ldN b)) (h2 : scalarB r = true) : dec (b :: t) = (r, ldN b) := by
  simp only [dec]; rw [if_neg h0, h]; simp only; rw [if_neg (by rintro (h | h); exact h1 h; rw [h2] at h; cases h)]
theorem contR_yes {c : UInt8} {t : List UInt8} {r : Int} (h : c.toNat / 64 = 2) : contR (c :: t) r = contR t (r * 64 + ((c.toNat % 64 : Nat) : Int)) := by simp only [contR]; rw [if_pos h]
theorem contR_no {c : UInt8} {t : List UInt8} {r : Int} (h : ¬ c.toNat / 64 = 2) : contR (c :: t) r = none := by simp only [contR]; rw [if_neg h]
/-- Ahead of the loop. -/
theorem next_out (s : ByteArray) (x : Int) (w : World) (hs : s.size ≤ 9223372036854775807) (h : x < 0 ∨ (s.size : Int) ≤ x) :
    Calls Try.prog 11 #[.string s, .int .i64 x] w fun e w' => e = .returned (.tuple #[.int .i32 0, .int .i64 0]) ∧ w = w' := by
  by_cases h0 : x < 0
  · go_enter Try.func11, Try.ntmps11
    go_wp2
    go_ret2
    exact ⟨rfl, rfl⟩
  · have h1 : (s.size : Int) ≤ x := by omega
    go_enter Try.func11, Try.ntmps11
    go_wp2
    go_ret2
    exact ⟨rfl, rfl⟩
theorem next_in (s : ByteArray) (k : Nat) (w : World) (hs : s.size ≤ 9223372036854770000) (hk : k < s.size) :
    Calls Try.prog 11 #[.string s, .int .i64 (k : Nat)] w fun e w' => e = .returned (.tuple #[.int .i32 (dec (s.data.toList.drop k)).1, .int .i64 (dec (s.data.toList.drop k)).2]) ∧ w = w' := by
  obtain ⟨b, hb⟩ : ∃ b, b = s[k] := ⟨_, rfl⟩
  obtain ⟨t, ht⟩ : ∃ t, t = s.data.toList.drop (k + 1) := ⟨_, rfl⟩
  have hd : s.data.toList.drop k = b :: t := by rw [List.drop_eq_getElem_cons (by simpa using hk), ht, hb]; rfl
  have htl : t.length = s.size - (k + 1) := by rw [ht]; simp
  have hbt : ∀ i, (hi : k + 1 + i < s.size) → (hi' : i < t.length) → s[k + 1 + i] = t[i] := fun i hi hi' => by
    subst ht
    rw [List.getElem_drop]; rfl
  obtain ⟨n, hn⟩ : ∃ n, n = ldN b := ⟨_, rfl⟩
  obtain ⟨r0, hr0⟩ : ∃ r, r = ldR b := ⟨_, rfl⟩
  have hn4 : n ≤ 4 := by rw [hn]; exact ldN_le b
  have hrb := ldR_bd b
  rw [← hr0] at hrb
  obtain ⟨hrb0, hrb1⟩ := hrb
  have HB := Lib.hid hb
  have HD := Lib.hid hd
  have HTL := Lib.hid htl
  have HBT := Lib.hid hbt
  have hlead := lead_calls b
  rw [← hn, ← hr0] at hlead
  have HL := Lib.hid hlead
  have HN := Lib.hid hn
  have HR := Lib.hid hr0
  clear hb hd htl hbt ht hlead hn hr0
  by_cases h0 : n = 0
  · have hfin : dec (s.data.toList.drop k) = (0, 0) := by rw [HD.out]; exact dec_bad (.inl (by rw [← HN.out]; exact h0))
    rw [hfin]
    have e0 : ((n : Int) == 0) = true := by simp [h0]
    clear hfin h0
    go_enter Try.func11, Try.ntmps11
    go_wp2_with (go_at_call 20; rw [← HB.out]; refine (HL.out _).mono ?_; rintro e w' ⟨rfl, rfl⟩)
    go_ret2
    exact ⟨rfl, rfl⟩
  have e0 : ((n : Int) == 0) = false := by simp [h0]
  by_cases h1 : s.size < k + n
  · have hfin : dec (s.data.toList.drop k) = (0, 0) := by rw [HD.out]; exact dec_bad (.inr (by rw [← HN.out, HTL.out]; omega))
    rw [hfin]
    clear hfin h0
    go_enter Try.func11, Try.ntmps11
    go_wp2_with (go_at_call 20; rw [← HB.out]; refine (HL.out _).mono ?_; rintro e w' ⟨rfl, rfl⟩)
    go_ret2
    exact ⟨rfl, rfl⟩
  have hgood : ¬ (ldN b = 0 ∨ t.length + 1 < ldN b) := by rw [← HN.out, HTL.out]; omega
  have HG := Lib.hid hgood
  have hn1 : 1 ≤ n := by omega
  clear hgood h0
  go_enter Try.func11, Try.ntmps11
  go_wp2_with (go_at_call 20; rw [← HB.out]; refine (HL.out _).mono ?_; rintro e w' ⟨rfl, rfl⟩)
  go_loop [7, 8, 9] (fun r i _ => ∃ (m : Nat) (x : Int), 1 ≤ m ∧ m ≤ n ∧ i = .int .i64 (m : Nat) ∧ r = .int .i32 x ∧ 0 ≤ x ∧ x < bnd m ∧ contR (t.take (n - 1)) r0 = contR ((t.take (n - 1)).drop (m - 1)) x) (fun _ i _ => n - (intOf i).toNat)
  case atStart => exact ⟨1, r0, Nat.le_refl _, hn1, rfl, rfl, hrb0, by simpa [bnd] using hrb1, by simp⟩
  case round =>
    obtain ⟨m, x, hm1, hmn, rfl, rfl, hx0, hx1, hc⟩ := hrel
    have HC := Lib.hid hc
    clear hc
    by_cases hlt : m < n
    · have hks : k + 1 + (m - 1) < s.size := by omega
      have hmt : m - 1 < t.length := by have := HTL.out; omega
      have hcm := HBT.out (m - 1) hks hmt
      have hkm : k + 1 + (m - 1) = k + m := by omega
      obtain ⟨c, hcc⟩ : ∃ c, c = t[m - 1] := ⟨_, rfl⟩
      have hck : ∀ h : k + m < s.size, s[k + m] = c := fun h => by
        rw [hcc, ← hcm]; congr 1; omega
      have hcd : (t.take (n - 1)).drop (m - 1) = c :: (t.take (n - 1)).drop m := by
        rw [List.drop_eq_getElem_cons (by simp; omega), hcc]
        simp
        rw [show m - 1 + 1 = m by omega]
      have HCK := Lib.hid hck
      have HCD := Lib.hid hcd
      have hb := bnd_le m
      have ha := b_and192 c
      have hb6 := b_and63 c
      obtain ⟨y, hy⟩ : ∃ y : Int, y = c.toNat := ⟨_, rfl⟩
      rw [← hy] at ha hb6
      have hy0 : 0 ≤ y := by omega
      have hy1 : y < 256 := by have := UInt8.toNat_lt c; omega
      have HY := Lib.hid hy
      clear hcm hkm hcc hck hcd hks hmt hy
      have hsl : k + m < s.size := by omega
      have hidx : s[k + m] = c := HCK.out hsl
      have hidy : ((s[k + m]).toNat : Int) = y := by rw [hidx, HY.out]
      clear hidx
      by_cases hk2 : y / 64 = 2
      · have hst := bnd_step (c := y % 64) hm1 (by omega) hx1 (by omega)
        obtain ⟨hst1, hst2⟩ := hst
        have hor : bits .or .i32 (x * 64) (y % 64) = x * 64 + y % 64 := bits_join .i32 31 (by decide) wraps_i32 6 (x * 64) (y % 64) (by omega) (by omega) (by omega) (by omega) (by omega) (by omega)
        have hne : (y / 64 * 64 != 128) = false := by rw [bne_eq_false_iff_eq]; omega
        have HK := Lib.hid hk2
        clear hk2
        go_wp2_with fail
        go_round
        case rel =>
          refine ⟨m + 1, x * 64 + y % 64, by omega, by omega, by go_num, rfl, by omega, hst1, ?_⟩
          rw [HC.out, HCD.out, contR_yes (by have := HY.out; have := HK.out; omega), show m + 1 - 1 = m by omega]
          congr 1
          have := HY.out; omega
        case measure => simp [intOf]; omega
      · have hfin : dec (s.data.toList.drop k) = (0, 0) := by
          rw [HD.out]
          refine dec_cont ?_
          rw [← HN.out, ← HR.out, HC.out, HCD.out]
          exact contR_no (by have := HY.out; omega)
        have HFIN := Lib.hid hfin
        have hne : (y / 64 * 64 != 128) = true := by rw [bne_iff_ne]; omega
        clear hfin hk2
        go_wp2_with fail
        go_ret2
        exact ⟨by rw [HFIN.out]; rfl, rfl⟩
    · have hmn' : m = n := by omega
      have hfc : contR (t.take (ldN b - 1)) (ldR b) = some x := by
        rw [← HN.out, ← HR.out, HC.out, hmn', List.drop_of_length_le (by simp; omega)]; rfl
      have HF := Lib.hid hfc
      obtain ⟨le, hle⟩ : ∃ le, le = leastI n := ⟨_, rfl⟩
      have hlc := fun w => least_calls n w hn1 hn4
      rw [← hle] at hlc
      have HLC := Lib.hid hlc
      have HLE := Lib.hid hle
      clear hmn' hfc hle hlc
      have hb := bnd_le m
      by_cases hlow : x < le
      · have hfin : dec (s.data.toList.drop k) = (0, 0) := by
          rw [HD.out]; exact dec_low HG.out HF.out (.inl (by rw [← HN.out, ← HLE.out]; exact hlow))
        have HFIN := Lib.hid hfin
        clear hfin
        go_wp2_with (first
          | (go_at_call 21; refine (HLC.out _).mono ?_; rintro e w' ⟨rfl, rfl⟩)
          | (go_at_call 18; refine (scalar_calls _ _).mono ?_; rintro e w' ⟨rfl, rfl⟩))
        go_ret2
        exact ⟨by rw [HFIN.out]; rfl, rfl⟩
      · cases hsc : scalarB x with
        | false =>
          have hfin : dec (s.data.toList.drop k) = (0, 0) := by
            rw [HD.out]; exact dec_low HG.out HF.out (.inr hsc)
          have HFIN := Lib.hid hfin
          clear hfin
          go_wp2_with (first
            | (go_at_call 21; refine (HLC.out _).mono ?_; rintro e w' ⟨rfl, rfl⟩)
            | (go_at_call 18; refine (scalar_calls _ _).mono ?_; rintro e w' ⟨rfl, rfl⟩))
          go_ret2
          exact ⟨by rw [HFIN.out]; rfl, rfl⟩
        | true =>
          have hfin : dec (s.data.toList.drop k) = (x, n) := by
            rw [HD.out, HN.out]; exact dec_good HG.out HF.out (by rw [← HN.out, ← HLE.out]; exact hlow) hsc
          have HFIN := Lib.hid hfin
          clear hfin
          go_wp2_with (first
            | (go_at_call 21; refine (HLC.out _).mono ?_; rintro e w' ⟨rfl, rfl⟩)
            | (go_at_call 18; refine (scalar_calls _ _).mono ?_; rintro e w' ⟨rfl, rfl⟩))
          go_ret2
          exact ⟨by rw [HFIN.out]; rfl, rfl⟩
theorem next_calls (s : ByteArray) (x : Int) (w : World) (hs : s.size ≤ 9223372036854770000) :
    Calls Try.prog 11 #[.string s, .int .i64 x] w fun e w' => e = .returned (.tuple #[.int .i32 (nextI s.data.toList x).1, .int .i64 (nextI s.data.toList x).2]) ∧ w = w' := by
  by_cases h : x < 0 ∨ (s.size : Int) ≤ x
  · have e : nextI s.data.toList x = (0, 0) := by
      rcases h with h | h
      · exact nextI_neg h
      · exact nextI_out (by rw [← Lib.size_eq]; exact h)
    rw [e]
    exact next_out s x w (by omega) h
  · obtain ⟨k, rfl⟩ := Int.eq_ofNat_of_zero_le (show 0 ≤ x by omega)
    rw [nextI_at]
    exact next_in s k w hs (by omega)
end Go.Proofs.Ythloijpnbljpeaa
