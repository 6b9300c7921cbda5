/- utf.bytes: a scalar's bytes (over the plain words of UtfD). -/
import Derived.Test.YthloijpnbljpeaaUtfR
set_option linter.unusedVariables false
set_option linter.unusedSimpArgs false
namespace Go.Proofs.Ythloijpnbljpeaa
open Go.RowKit Go.Tk
theorem i32_and63 (n : Int) : bits .and .i32 n 63 = n % 64 := by
  have h63 : (BitVec.ofInt 32 63).toNat = 2 ^ 6 - 1 := by decide
  have key : (BitVec.ofInt 32 n &&& BitVec.ofInt 32 63).toNat = (n % ((2 ^ 32 : Nat) : Int)).toNat % 2 ^ 6 := by
    rw [BitVec.toNat_and, BitVec.toNat_ofInt, h63, Nat.and_two_pow_sub_one_eq_mod]
  show IntKind.i32.wrap ((BitVec.ofInt 32 n &&& BitVec.ofInt 32 63).toNat : Nat) = n % 64
  rw [key, IntKind.wrap_i32]
  omega
theorem ubytes_calls (r : Int) (w : World) (h0 : 0 ≤ r) (h1 : r ≤ 1114111) :
    Calls Try.prog 19 #[.int .i32 r] w fun e w' => e = .returned (.slice (some ⟨w.heap.size, 0, none⟩) (encZ r).length (encZ r).length) ∧ Fresh .u8 5 w w' w.heap.size (encZ r) := by
  have ha := i32_and63
  have o3 : r < 65536 → bits .or .i32 224 (r / 4096) = 224 + r / 4096 := fun h => bits_join .i32 31 (by decide) wraps_i32 5 224 (r / 4096) (by decide) (by decide) (by decide) (by omega) (by omega) (by omega)
  have o4 : bits .or .i32 240 (r / 262144) = 240 + r / 262144 := bits_join .i32 31 (by decide) wraps_i32 4 240 (r / 262144) (by decide) (by decide) (by decide) (by omega) (by omega) (by omega)
  by_cases c1 : r < 128
  · go_enter Try.func19, Try.ntmps19
    go_wp2
    go_ret
    rw [encZ1 (by omega)]
    exact ⟨rfl, Nat.le_refl _, heap_alloc_new _ _, (Below.refl _ _).alloc (Nat.le_refl _) _⟩
  by_cases c2 : r < 2048
  · go_enter Try.func19, Try.ntmps19
    go_wp2
    go_ret
    rw [encZ2 (by omega) (by omega)]
    exact ⟨rfl, Nat.le_refl _, heap_alloc_new _ _, (Below.refl _ _).alloc (Nat.le_refl _) _⟩
  by_cases c3 : r < 65536
  · go_enter Try.func19, Try.ntmps19
    go_wp2
    go_ret
    rw [encZ3 (by omega) (by omega) (by omega)]
    exact ⟨rfl, Nat.le_refl _, heap_alloc_new _ _, (Below.refl _ _).alloc (Nat.le_refl _) _⟩
  · go_enter Try.func19, Try.ntmps19
    go_wp2
    go_ret
    rw [encZ4 (by omega) (by omega) (by omega)]
    exact ⟨rfl, Nat.le_refl _, heap_alloc_new _ _, (Below.refl _ _).alloc (Nat.le_refl _) _⟩
end Go.Proofs.Ythloijpnbljpeaa
