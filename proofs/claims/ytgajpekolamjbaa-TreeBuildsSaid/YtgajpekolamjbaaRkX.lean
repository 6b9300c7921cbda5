/- Build of any bytes and number: the program's, the document's. -/
import Derived.Test.YtgajpekolamjbaaRkH
set_option linter.unusedVariables false
set_option linter.unusedSimpArgs false
namespace Go.Tk
open Go Go.RowKit
def bErr (d : List UInt8) (N : Int) : Int := if N < 0 ∨ 67108864 < N then 2 else if (d.length : Int) < (N + 7) / 8 then 10 else if (N + 7) / 8 < (d.length : Int) then 13 else if padB d N.toNat = false then 12 else 0
theorem bErr_ok {d : List UInt8} {N : Int} (h : bErr d N = 0) : ∃ n : Nat, N = n ∧ n ≤ 67108864 ∧ d.length = (n + 7) / 8 ∧ padB d n = true := by
  unfold bErr at h
  by_cases h1 : N < 0 ∨ 67108864 < N
  · rw [if_pos h1] at h; exact absurd h (by decide)
  rw [if_neg h1] at h
  by_cases h2 : (d.length : Int) < (N + 7) / 8
  · rw [if_pos h2] at h; exact absurd h (by decide)
  rw [if_neg h2] at h
  by_cases h3 : (N + 7) / 8 < (d.length : Int)
  · rw [if_pos h3] at h; exact absurd h (by decide)
  rw [if_neg h3] at h
  obtain ⟨n, rfl⟩ : ∃ n : Nat, N = n := ⟨N.toNat, by omega⟩
  by_cases h4 : padB d n = true
  · exact ⟨n, rfl, by omega, by omega, h4⟩
  · rw [Int.toNat_natCast, if_pos (by simpa using h4)] at h; exact absurd h (by decide)
theorem bErr_yes {d : List UInt8} {n : Nat} (h1 : n ≤ 67108864) (h2 : d.length = (n + 7) / 8) (h3 : padB d n = true) : bErr d n = 0 := by
  unfold bErr
  rw [if_neg (by omega), if_neg (by omega), if_neg (by omega), Int.toNat_natCast, if_neg (by simp [h3])]
end Go.Tk
namespace Go.Proofs.Ytgajpekolamjbaa
open Go.RowKit Go.Tk
set_option maxRecDepth 100000 in
set_option maxHeartbeats 2000000 in
theorem build_no (w : World) (a : Option Addr) (n c : Nat) (d : List UInt8) (N : Int) (hs : SlI .u8 w a n c (nums d)) (hd : n ≤ 140737488351232) (he : bErr d N ≠ 0) :
    Calls Try.prog 43 #[.slice a n c, .int .i64 N] w fun e w' => e = .returned (.tuple #[.slice none 0 0, .int .i64 (bErr d N)]) ∧ w = w' := by
  have hnl := hs.len
  rw [nums_len] at hnl
  have HS := Lib.hid hs
  have HNL := Lib.hid hnl
  unfold bErr at he ⊢
  rw [hnl] at he ⊢
  clear hs hnl
  by_cases h1 : N < 0 ∨ 67108864 < N
  · rw [if_pos h1]
    clear he
    rcases h1 with h1 | h1
    · go_enter Try.func43, Try.ntmps43
      go_wp2
      go_ret2
      exact ⟨rfl, rfl⟩
    · have h0 : ¬ N < 0 := by omega
      go_enter Try.func43, Try.ntmps43
      go_wp2
      go_ret2
      exact ⟨rfl, rfl⟩
  rw [if_neg h1] at he ⊢
  have hN0 : ¬ N < 0 := by omega
  have hN1 : ¬ 67108864 < N := by omega
  have hup := fun w => up_calls N 8 w (by omega) (by omega) (by omega) (by omega)
  have hee : (N + 8 - 1) / 8 = (N + 7) / 8 := by omega
  rw [hee] at hup
  obtain ⟨u, hu⟩ : ∃ u, u = (N + 7) / 8 := ⟨_, rfl⟩
  rw [← hu] at hup he ⊢
  have HUP := Lib.hid hup
  have HU := Lib.hid hu
  clear hup hee h1 hu
  by_cases h2 : (n : Int) < u
  · rw [if_pos h2]
    clear he
    go_enter Try.func43, Try.ntmps43
    go_wp2_with (go_at_call 79; refine (HUP.out _).mono ?_; rintro e w1 ⟨rfl, rfl⟩)
    go_ret2
    exact ⟨rfl, rfl⟩
  rw [if_neg h2] at he ⊢
  by_cases h3 : u < (n : Int)
  · rw [if_pos h3]
    clear he
    go_enter Try.func43, Try.ntmps43
    go_wp2_with (go_at_call 79; refine (HUP.out _).mono ?_; rintro e w1 ⟨rfl, rfl⟩)
    go_ret2
    exact ⟨rfl, rfl⟩
  rw [if_neg h3] at he ⊢
  by_cases h4 : padB d N.toNat = false
  · rw [if_pos h4]
    clear he
    obtain ⟨k, rfl⟩ : ∃ k : Nat, N = k := ⟨N.toNat, by omega⟩
    have hpd := fun w' h => padded_calls w' a n c d k h (by have := HNL.out; have := HU.out; omega) (by omega)
    rw [Int.toNat_natCast] at h4
    rw [h4] at hpd
    have HPD := Lib.hid hpd
    clear hpd h4
    go_enter Try.func43, Try.ntmps43
    go_wp2_with (first
      | (go_at_call 79; refine (HUP.out _).mono ?_; rintro e w1 ⟨rfl, rfl⟩)
      | (go_at_call 80; refine (HPD.out _ HS.out).mono ?_; rintro e w1 ⟨rfl, rfl⟩))
    go_ret2
    exact ⟨rfl, rfl⟩
  · rw [if_neg h4] at he; exact absurd rfl he
end Go.Proofs.Ytgajpekolamjbaa
