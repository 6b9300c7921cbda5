/- utf.bytes, utf.Bytes, the document's Bytes: a scalar's bytes. -/
import Derived.Test.YthloijpnbljpeaaTypes
import Derived.Test.YthloijpnbljpeaaOwn
namespace Go.Proofs.Ythloijpnbljpeaa
open Go.RowKit Go.Tk
theorem i32_and63 (n : Int) : bits .and .i32 n 63 = n % 64 := by
  have h63 : (BitVec.ofInt 32 63).toNat = 2 ^ 6 - 1 := by decide
  have key : (BitVec.ofInt 32 n &&& BitVec.ofInt 32 63).toNat = (n % ((2 ^ 32 : Nat) : Int)).toNat % 2 ^ 6 := by
    rw [BitVec.toNat_and, BitVec.toNat_ofInt, h63, Nat.and_two_pow_sub_one_eq_mod]
  show IntKind.i32.wrap ((BitVec.ofInt 32 n &&& BitVec.ofInt 32 63).toNat : Nat) = n % 64
  rw [key, IntKind.wrap_i32]
  omega
/-- A scalar's bytes. -/
def encZ (r : Int) : List Int :=
  if r < 128 then [r] else if r < 2048 then [192 + r / 64, 128 + r % 64] else if r < 65536 then [224 + r / 4096, 128 + r / 64 % 64, 128 + r % 64] else [240 + r / 262144, 128 + r / 4096 % 64, 128 + r / 64 % 64, 128 + r % 64]
theorem encZ1 {r : Int} (a : r < 128) : encZ r = [r] := by unfold encZ; rw [if_pos a]
theorem encZ2 {r : Int} (a : ¬ r < 128) (b : r < 2048) : encZ r = [192 + r / 64, 128 + r % 64] := by unfold encZ; rw [if_neg a, if_pos b]
theorem encZ3 {r : Int} (a : ¬ r < 128) (b : ¬ r < 2048) (c : r < 65536) : encZ r = [224 + r / 4096, 128 + r / 64 % 64, 128 + r % 64] := by unfold encZ; rw [if_neg a, if_neg b, if_pos c]
theorem encZ4 {r : Int} (a : ¬ r < 128) (b : ¬ r < 2048) (c : ¬ r < 65536) : encZ r = [240 + r / 262144, 128 + r / 4096 % 64, 128 + r / 64 % 64, 128 + r % 64] := by unfold encZ; rw [if_neg a, if_neg b, if_neg c]
theorem encZ_len (r : Int) : 1 ≤ (encZ r).length ∧ (encZ r).length ≤ 4 := by
  unfold encZ; split; · simp
  split; · simp
  split <;> simp
/-- Is a number a scalar? -/
def scalarB (r : Int) : Bool := decide (0 ≤ r ∧ r ≤ 1114111 ∧ (r < 55296 ∨ 57343 < r))
theorem ubytes_calls (r : Int) (w : World) (h0 : 0 ≤ r) (h1 : r ≤ 1114111) :
    Calls Try.prog 19 #[.int .i32 r] w fun e w' => e = .returned (.slice (some ⟨w.heap.size, 0, none⟩) (encZ r).length (encZ r).length) ∧ Fresh .u8 5 w w' w.heap.size (encZ r) := by
  have ha := i32_and63
  have o3 : r < 65536 → bits .or .i32 224 (r / 4096) = 224 + r / 4096 := fun h => bits_join .i32 31 (by decide) wraps_i32 5 224 (r / 4096) (by decide) (by decide) (by decide) (by omega) (by omega) (by omega)
  have o4 : bits .or .i32 240 (r / 262144) = 240 + r / 262144 := bits_join .i32 31 (by decide) wraps_i32 4 240 (r / 262144) (by decide) (by decide) (by decide) (by omega) (by omega) (by omega)
  by_cases c1 : r < 128
  · go_enter Try.func19, Try.ntmps19
    go_wp2
    go_ret
    rw [encZ1 (by omega)]
    exact ⟨rfl, Nat.le_refl _, heap_alloc_new _ _, (Below.refl _ _).alloc (Nat.le_refl _) _⟩
  by_cases c2 : r < 2048
  · go_enter Try.func19, Try.ntmps19
    go_wp2
    go_ret
    rw [encZ2 (by omega) (by omega)]
    exact ⟨rfl, Nat.le_refl _, heap_alloc_new _ _, (Below.refl _ _).alloc (Nat.le_refl _) _⟩
  by_cases c3 : r < 65536
  · go_enter Try.func19, Try.ntmps19
    go_wp2
    go_ret
    rw [encZ3 (by omega) (by omega) (by omega)]
    exact ⟨rfl, Nat.le_refl _, heap_alloc_new _ _, (Below.refl _ _).alloc (Nat.le_refl _) _⟩
  · go_enter Try.func19, Try.ntmps19
    go_wp2
    go_ret
    rw [encZ4 (by omega) (by omega) (by omega)]
    exact ⟨rfl, Nat.le_refl _, heap_alloc_new _ _, (Below.refl _ _).alloc (Nat.le_refl _) _⟩
theorem rbytes_calls (r : Int) (w : World) (h0 : 0 ≤ r) (h1 : r ≤ 1114111) :
    Calls Try.prog 9 #[.int .i64 r] w fun e w' => e = .returned (.slice (some ⟨w.heap.size, 0, none⟩) (encZ r).length (encZ r).length) ∧ Fresh .u8 5 w w' w.heap.size (encZ r) := by
  by_cases c1 : r < 128
  · go_enter Try.func9, Try.ntmps9
    go_wp2
    go_ret
    rw [encZ1 (by omega)]
    exact ⟨rfl, Nat.le_refl _, heap_alloc_new _ _, (Below.refl _ _).alloc (Nat.le_refl _) _⟩
  by_cases c2 : r < 2048
  · go_enter Try.func9, Try.ntmps9
    go_wp2
    go_ret
    rw [encZ2 (by omega) (by omega)]
    exact ⟨rfl, Nat.le_refl _, heap_alloc_new _ _, (Below.refl _ _).alloc (Nat.le_refl _) _⟩
  by_cases c3 : r < 65536
  · go_enter Try.func9, Try.ntmps9
    go_wp2
    go_ret
    rw [encZ3 (by omega) (by omega) (by omega)]
    exact ⟨rfl, Nat.le_refl _, heap_alloc_new _ _, (Below.refl _ _).alloc (Nat.le_refl _) _⟩
  · go_enter Try.func9, Try.ntmps9
    go_wp2
    go_ret
    rw [encZ4 (by omega) (by omega) (by omega)]
    exact ⟨rfl, Nat.le_refl _, heap_alloc_new _ _, (Below.refl _ _).alloc (Nat.le_refl _) _⟩
theorem scalar_calls (r : Int) (w : World) : Calls Try.prog 18 #[.int .i32 r] w fun e w' => e = .returned (.bool (scalarB r)) ∧ w = w' := by
  by_cases a : 0 ≤ r
  · by_cases b : r ≤ 1114111
    · by_cases c : r < 55296
      · have e : scalarB r = true := by simp [scalarB]; omega
        rw [e]; go_enter Try.func18, Try.ntmps18
        go_wp2
        go_ret
        exact ⟨by simp [a, b, c], rfl⟩
      · have e : scalarB r = decide (57343 < r) := by unfold scalarB; exact decide_eq_decide.2 (by omega)
        rw [e]; go_enter Try.func18, Try.ntmps18
        go_wp2
        go_ret
        exact ⟨by simp [a, b, c], rfl⟩
    · have e : scalarB r = false := by simp [scalarB]; omega
      rw [e]; go_enter Try.func18, Try.ntmps18
      go_wp2
      go_ret
      exact ⟨by simp [a, b], rfl⟩
  · have e : scalarB r = false := by simp [scalarB]; omega
    rw [e]; go_enter Try.func18, Try.ntmps18
    go_wp2
    go_ret
    exact ⟨by simp [a], rfl⟩
end Go.Proofs.Ythloijpnbljpeaa
