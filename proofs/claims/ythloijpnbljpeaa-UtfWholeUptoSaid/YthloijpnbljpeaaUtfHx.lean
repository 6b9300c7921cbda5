/- hex, number: the digits of an escape: the program's, the document's. -/
import Derived.Test.YthloijpnbljpeaaUtfC
set_option linter.unusedVariables false
set_option linter.unusedSimpArgs false
namespace Go.Tk
open Go Go.RowKit
theorem wraps_40 (n : Int) (h₀ : 0 ≤ n) (h₁ : n < 2 ^ 40) : IntKind.i64.wrap n = n := by rw [IntKind.wrap_i64]; omega
/-- A hexadecimal digit's value; -1: it is none. -/
def hexX (x : Int) : Int := if 48 ≤ x ∧ x ≤ 57 then x - 48 else if 97 ≤ x ∧ x ≤ 102 then x - 87 else if 65 ≤ x ∧ x ≤ 70 then x - 55 else -1
theorem hexX_bd (x : Int) : -1 ≤ hexX x ∧ hexX x < 16 := by
  unfold hexX
  repeat' split
  all_goals omega
/-- The number of so many digits at a text's front. -/
def numF : Nat → List UInt8 → Int → Option Int
  | 0, _, acc => some acc
  | _ + 1, [], _ => none
  | k + 1, b :: t, acc => if hexX b.toNat < 0 then none else numF k t (acc * 16 + hexX b.toNat)
/-- The scalar of so many digits at a text's front; -1: there is none. -/
def numI (l : List UInt8) (n : Nat) : Int := match numF n l 0 with
  | none => -1
  | some r => if scalarB r = true then r else -1
theorem numF_short : ∀ (n : Nat) (l : List UInt8) (acc : Int), l.length < n → numF n l acc = none
  | 0, _, _, h => absurd h (by omega)
  | n + 1, [], _, _ => rfl
  | n + 1, b :: t, acc, h => by
    simp only [numF]
    split
    · rfl
    · exact numF_short n t _ (by simp at h; omega)
theorem numI_none {l : List UInt8} {n : Nat} (h : numF n l 0 = none) : numI l n = -1 := by unfold numI; rw [h]
theorem numI_some {l : List UInt8} {n : Nat} {r : Int} (h : numF n l 0 = some r) : numI l n = if scalarB r = true then r else -1 := by unfold numI; rw [h]
/-- One more digit. -/
theorem numF_step {l : List UInt8} {n i : Nat} {acc : Int} (hi : i < n) (hl : i < l.length) : numF (n - i) (l.drop i) acc = if hexX (l[i]).toNat < 0 then none else numF (n - (i + 1)) (l.drop (i + 1)) (acc * 16 + hexX (l[i]).toNat) := by
  obtain ⟨k, hk⟩ : ∃ k, n - i = k + 1 := ⟨n - i - 1, by omega⟩
  have hk2 : n - (i + 1) = k := by omega
  rw [hk, hk2, List.drop_eq_getElem_cons hl]
  rfl
end Go.Tk
namespace Go.Proofs.Ythloijpnbljpeaa
open Go.RowKit Go.Tk
set_option maxHeartbeats 1000000 in
theorem uhex_calls (x : Int) (w : World) (h0 : 0 ≤ x) (h1 : x < 256) :
    Calls Try.prog 39 #[.int .u8 x] w fun e w' => e = .returned (.int .i64 (hexX x)) ∧ w = w' := by
  by_cases a : 48 ≤ x ∧ x ≤ 57
  · have e : hexX x = x - 48 := by unfold hexX; rw [if_pos a]
    have HE := Lib.hid e
    clear e
    obtain ⟨a1, a2⟩ := a
    go_enter Try.func39, Try.ntmps39
    go_wp2
    go_ret
    exact ⟨by rw [HE.out]; rfl, rfl⟩
  by_cases b : 97 ≤ x ∧ x ≤ 102
  · have e : hexX x = x - 97 + 10 := by unfold hexX; rw [if_neg a, if_pos b]; omega
    have HE := Lib.hid e
    clear e
    obtain ⟨b1, b2⟩ := b
    have a1 : ¬ x ≤ 57 := by omega
    go_enter Try.func39, Try.ntmps39
    go_wp2
    go_ret
    exact ⟨by rw [HE.out]; rfl, rfl⟩
  by_cases c : 65 ≤ x ∧ x ≤ 70
  · have e : hexX x = x - 65 + 10 := by unfold hexX; rw [if_neg a, if_neg b, if_pos c]; omega
    have HE := Lib.hid e
    clear e
    obtain ⟨b1, b2⟩ := c
    have a1 : ¬ x ≤ 57 := by omega
    have a2 : ¬ 97 ≤ x := by omega
    go_enter Try.func39, Try.ntmps39
    go_wp2
    go_ret
    exact ⟨by rw [HE.out]; rfl, rfl⟩
  · have e : hexX x = -1 := by unfold hexX; rw [if_neg a, if_neg b, if_neg c]
    have HE := Lib.hid e
    clear e
    have e1 : (decide (48 ≤ x) && decide (x ≤ 57)) = false := by simp; omega
    have e2 : (decide (97 ≤ x) && decide (x ≤ 102)) = false := by simp; omega
    have e3 : (decide (65 ≤ x) && decide (x ≤ 70)) = false := by simp; omega
    go_enter Try.func39, Try.ntmps39
    go_wp2
    all_goals go_ret
    all_goals first | exact ⟨by rw [HE.out]; rfl, rfl⟩ | (exfalso; omega)
set_option maxRecDepth 100000 in
set_option maxHeartbeats 4000000 in
theorem unumber_calls (s : ByteArray) (n : Nat) (w : World) (hs : s.size ≤ 9000000000000000000) (hn : n ≤ 8) :
    Calls Try.prog 36 #[.string s, .int .i64 n] w fun e w' => (∃ v, e = .returned (.tuple #[.int .i32 v, .bool (decide (0 ≤ numI s.data.toList n))]) ∧ (0 ≤ numI s.data.toList n → v = numI s.data.toList n)) ∧ w = w' := by
  obtain ⟨l, hl⟩ : ∃ l, l = s.data.toList := ⟨_, rfl⟩
  have hll : l.length = s.size := by rw [hl, Lib.size_eq]
  have hge : ∀ i (h : i < s.size) (h' : i < l.length), s[i] = l[i] := fun i h h' => by subst hl; rfl
  rw [← hl]
  have HLL := Lib.hid hll
  have HGE := Lib.hid hge
  clear hl hll hge
  by_cases hsh : s.size < n
  · have hz := numI_none (numF_short n l 0 (by rw [HLL.out]; exact hsh))
    rw [hz]
    go_enter Try.func36, Try.ntmps36
    go_wp2
    go_ret2
    exact ⟨⟨_, rfl, fun h => absurd h (by omega)⟩, rfl⟩
  · go_enter Try.func36, Try.ntmps36
    go_wp2
    go_loop [6, 7, 8, 14] (fun av _ _ iv => ∃ (i : Nat) (acc : Int), i ≤ n ∧ iv = .int .i64 (i : Nat) ∧ av = .int .i64 acc ∧ 0 ≤ acc ∧ acc < ((16 ^ i : Nat) : Int) ∧ numF (n - i) (l.drop i) acc = numF n l 0) (fun _ _ _ iv => n - (intOf iv).toNat)
    case atStart => exact ⟨0, 0, Nat.zero_le _, rfl, rfl, by decide, by decide, rfl⟩
    case round =>
      obtain ⟨i, acc, hi, rfl, rfl, h0, h1, hc⟩ := hrel
      have hpow : (16 ^ i : Nat) ≤ 16 ^ 8 := Nat.pow_le_pow_right (by decide) (by omega)
      have hpow2 : ((16 ^ (i + 1) : Nat) : Int) = ((16 ^ i : Nat) : Int) * 16 := by rw [Nat.pow_succ]; simp
      have h16 : (16 ^ 8 : Nat) = 4294967296 := by decide
      rw [h16] at hpow
      generalize (16 ^ i : Nat) = P at h1 hpow hpow2
      by_cases hin : i < n
      · have hl : i < l.length := by rw [HLL.out]; omega
        have hsl : i < s.size := by omega
        rw [numF_step hin hl] at hc
        have hidx := HGE.out i hsl hl
        obtain ⟨y, hy⟩ : ∃ y : Int, y = ((l[i]).toNat : Int) := ⟨_, rfl⟩
        have hy0 : 0 ≤ y ∧ y < 256 := by have := UInt8.toNat_lt (l[i]); omega
        have hyx : ((s[i]).toNat : Int) = y := by rw [hidx, hy]
        rw [← hy] at hc
        have hcall := fun w => uhex_calls y w hy0.1 hy0.2
        obtain ⟨d, hd⟩ : ∃ d, d = hexX y := ⟨_, rfl⟩
        have hdb := hexX_bd y
        rw [← hd] at hc hcall hdb
        have HC := Lib.hid hc
        have HCALL := Lib.hid hcall
        have HP2 := Lib.hid hpow2
        clear hc hcall hy hd hidx hpow2 h16
        by_cases hd0 : d < 0
        · have hz := HC.out
          rw [if_pos hd0] at hz
          have HI := Lib.hid (numI_none hz.symm)
          clear hz
          go_wp2_with (go_at_call 39; refine (HCALL.out _).mono ?_; rintro e w1 ⟨rfl, rfl⟩)
          go_ret2
          exact ⟨⟨0, by rw [HI.out]; rfl, fun h => absurd h (by rw [HI.out]; decide)⟩, rfl⟩
        · have hz := HC.out
          rw [if_neg hd0] at hz
          have HZ := Lib.hid hz
          have hor : bits .or .i64 (acc * 16) d = acc * 16 + d := bits_join .i64 40 (by decide) wraps_40 4 (acc * 16) d (by omega) (by omega) (by omega) (by omega) (by omega) (by omega)
          clear hz
          go_wp2_with (go_at_call 39; refine (HCALL.out _).mono ?_; rintro e w1 ⟨rfl, rfl⟩)
          go_round
          case rel => exact ⟨i + 1, acc * 16 + d, by omega, by go_num, rfl, by omega, by rw [HP2.out]; omega, HZ.out⟩
          case measure => simp [intOf]; omega
      · obtain rfl : i = n := by omega
        rw [Nat.sub_self] at hc
        have hz : numF i l 0 = some acc := hc.symm
        have hI := numI_some hz
        clear hz hc
        have HI := Lib.hid hI
        clear hI
        by_cases hbig : acc ≤ 1114111
        · have hw : IntKind.i32.wrap acc = acc := wraps_i32 acc h0 (by omega)
          cases hsb : scalarB acc with
          | true =>
            have HS := Lib.hid hsb
            clear hsb
            go_wp2_with (go_at_call 18; refine (scalar_calls acc _).mono ?_; rw [HS.out]; rintro e w1 ⟨rfl, rfl⟩)
            go_ret2
            have e : numI l i = acc := by rw [HI.out, HS.out]; rfl
            have e2 : decide (0 ≤ acc) = true := decide_eq_true h0
            exact ⟨⟨acc, by rw [e, e2]; rfl, fun _ => e.symm⟩, rfl⟩
          | false =>
            have HS := Lib.hid hsb
            clear hsb
            go_wp2_with (go_at_call 18; refine (scalar_calls acc _).mono ?_; rw [HS.out]; rintro e w1 ⟨rfl, rfl⟩)
            go_ret2
            have e : numI l i = -1 := by rw [HI.out, HS.out]; rfl
            exact ⟨⟨acc, by rw [e]; rfl, fun h => absurd h (by rw [e]; decide)⟩, rfl⟩
        · have hsb : scalarB acc = false := by
            rw [Bool.eq_false_iff]
            intro h
            have := (scalarB_iff acc).1 h
            omega
          have e : numI l i = -1 := by rw [HI.out, hsb]; rfl
          have HE := Lib.hid e
          clear hsb e
          go_wp2_with fail
          go_ret2
          exact ⟨⟨_, by rw [HE.out]; rfl, fun h => absurd h (by rw [HE.out]; decide)⟩, rfl⟩
end Go.Proofs.Ythloijpnbljpeaa
