/- utf.Next. -/
import Derived.Test.YtlhcejbimlilaaaGreatDoorUtfS
import Derived.WalkSpells
import Derived.WalkLawsBesides
import Derived.Laws.Bits64
import Derived.BigQuiet
import Derived.Outline
set_option linter.unusedVariables false
set_option linter.unusedSimpArgs false
namespace Go.Tk
open Go Go.RowKit
theorem u8_and31 : ∀ c : Fin 256, bits .and .u8 (c.val : Int) 31 = ((c.val % 32 : Nat) : Int) := by decide +kernel
theorem u8_and15 : ∀ c : Fin 256, bits .and .u8 (c.val : Int) 15 = ((c.val % 16 : Nat) : Int) := by decide +kernel
theorem u8_and7 : ∀ c : Fin 256, bits .and .u8 (c.val : Int) 7 = ((c.val % 8 : Nat) : Int) := by decide +kernel
theorem u8_and63 : ∀ c : Fin 256, bits .and .u8 (c.val : Int) 63 = ((c.val % 64 : Nat) : Int) := by decide +kernel
theorem u8_and192 : ∀ c : Fin 256, bits .and .u8 (c.val : Int) 192 = ((c.val / 64 * 64 : Nat) : Int) := by decide +kernel
theorem b_and31 (b : UInt8) : bits .and .u8 (b.toNat : Int) 31 = (b.toNat : Int) % 32 := (u8_and31 ⟨b.toNat, UInt8.toNat_lt b⟩).trans (by simp)
theorem b_and15 (b : UInt8) : bits .and .u8 (b.toNat : Int) 15 = (b.toNat : Int) % 16 := (u8_and15 ⟨b.toNat, UInt8.toNat_lt b⟩).trans (by simp)
theorem b_and7 (b : UInt8) : bits .and .u8 (b.toNat : Int) 7 = (b.toNat : Int) % 8 := (u8_and7 ⟨b.toNat, UInt8.toNat_lt b⟩).trans (by simp)
theorem b_and63 (b : UInt8) : bits .and .u8 (b.toNat : Int) 63 = (b.toNat : Int) % 64 := (u8_and63 ⟨b.toNat, UInt8.toNat_lt b⟩).trans (by simp)
theorem b_and192 (b : UInt8) : bits .and .u8 (b.toNat : Int) 192 = (b.toNat : Int) / 64 * 64 := (u8_and192 ⟨b.toNat, UInt8.toNat_lt b⟩).trans (by simp)
/-- The scalar at a place. -/
def nextI (l : List UInt8) (x : Int) : Int × Nat := if x < 0 then (0, 0) else dec (l.drop x.toNat)
theorem nextI_neg {l : List UInt8} {x : Int} (h : x < 0) : nextI l x = (0, 0) := by unfold nextI; rw [if_pos h]
theorem nextI_out {l : List UInt8} {x : Int} (h : (l.length : Int) ≤ x) : nextI l x = (0, 0) := by
  unfold nextI; rw [if_neg (by omega), List.drop_of_length_le (by omega)]; rfl
theorem nextI_at {l : List UInt8} {k : Nat} : nextI l (k : Int) = dec (l.drop k) := by
  unfold nextI; rw [if_neg (by omega), Int.toNat_natCast]
end Go.Tk
namespace Go.Proofs.YtlhcejbimlilaaaGreatDoor
open Go.RowKit Go.Tk
theorem ret_ii {k k' : IntKind} {a b c d : Int} (h1 : a = b) (h2 : c = d) : Ending.returned (.tuple #[.int k a, .int k' c]) = .returned (.tuple #[.int k b, .int k' d]) := by rw [h1, h2]
def bnd (i : Nat) : Int := if i = 1 then 256 else if i = 2 then 16384 else if i = 3 then 1048576 else 67108864
theorem bnd_le (i : Nat) : bnd i ≤ 67108864 := by unfold bnd; split; · omega
                                                  split; · omega
                                                  split <;> omega
theorem bnd_step {i : Nat} {r c : Int} (h1 : 1 ≤ i) (h2 : i < 4) (h : r < bnd i) (hc : c < 64) : r * 64 + c < bnd (i + 1) ∧ r < 1048576 := by
  obtain rfl | rfl | rfl : i = 1 ∨ i = 2 ∨ i = 3 := by omega
  all_goals simp [bnd] at h ⊢; omega
theorem dec_bad {b : UInt8} {t : List UInt8} (h : ldN b = 0 ∨ t.length + 1 < ldN b) : dec (b :: t) = (0, 0) := by simp only [dec]; rw [if_pos h]
theorem dec_cont {b : UInt8} {t : List UInt8} (h : contR (t.take (ldN b - 1)) (ldR b) = none) : dec (b :: t) = (0, 0) := by
  simp only [dec]; split; · rfl
  rw [h]
theorem dec_low {b : UInt8} {t : List UInt8} {r : Int} (h0 : ¬ (ldN b = 0 ∨ t.length + 1 < ldN b)) (h : contR (t.take (ldN b - 1)) (ldR b) = some r) (h2 : r < leastI (ldN b) ∨ scalarB r = false) : dec (b :: t) = (0, 0) := by
  simp only [dec]; rw [if_neg h0, h]; simp only; rw [if_pos h2]
theorem dec_good {b : UInt8} {t : List UInt8} {r : Int} (h0 : ¬ (ldN b = 0 ∨ t.length + 1 < ldN b)) (h : contR (t.take (ldN b - 1)) (ldR b) = some r) (h1 : ¬ r < leastI (ldN b)) (h2 : scalarB r = true) : dec (b :: t) = (r, ldN b) := by
  simp only [dec]; rw [if_neg h0, h]; simp only; rw [if_neg (by rintro (h | h); exact h1 h; rw [h2] at h; cases h)]
theorem contR_yes {c : UInt8} {t : List UInt8} {r : Int} (h : c.toNat / 64 = 2) : contR (c :: t) r = contR t (r * 64 + ((c.toNat % 64 : Nat) : Int)) := by simp only [contR]; rw [if_pos h]
theorem contR_no {c : UInt8} {t : List UInt8} {r : Int} (h : ¬ c.toNat / 64 = 2) : contR (c :: t) r = none := by simp only [contR]; rw [if_neg h]
end Go.Proofs.YtlhcejbimlilaaaGreatDoor
