/- four, two of the program. -/
import Derived.Test.YtgajpekolamjbaaRkX
import Derived.Deep.QuietTactic
set_option linter.unusedVariables false
set_option linter.unusedSimpArgs false
namespace Go.Tk
open Go Go.RowKit
theorem or_i64 (x y : Nat) (hx : x < 4611686018427387904) (hy : y < 4611686018427387904) : bits .or .i64 (x : Int) (y : Int) = ((x ||| y : Nat) : Int) := by
  have key : (BitVec.ofInt 64 (x : Int) ||| BitVec.ofInt 64 (y : Int)).toNat = x ||| y := by
    rw [BitVec.toNat_or, BitVec.toNat_ofInt, BitVec.toNat_ofInt]
    have e1 : ((x : Int) % ((2 ^ 64 : Nat) : Int)).toNat = x := by omega
    have e2 : ((y : Int) % ((2 ^ 64 : Nat) : Int)).toNat = y := by omega
    rw [e1, e2]
  show IntKind.i64.wrap ((BitVec.ofInt 64 (x : Int) ||| BitVec.ofInt 64 (y : Int)).toNat : Nat) = _
  rw [key, IntKind.wrap_i64]
  have : x ||| y < 2 ^ 62 := Nat.or_lt_two_pow (by omega) (by omega)
  omega
theorem or_hi (i x y : Nat) (hx : x < 2 ^ i) : x ||| (y * 2 ^ i) = x + y * 2 ^ i := by
  rw [Nat.mul_comm, Nat.or_comm, ← Nat.two_pow_add_eq_or_of_lt hx, Nat.add_comm]
theorem or_step (i x y : Nat) (hx : x < 2 ^ i) (hx2 : x < 4611686018427387904) (hy : y * 2 ^ i < 4611686018427387904) : bits .or .i64 (x : Int) ((y : Int) * ((2 ^ i : Nat) : Int)) = ((x + y * 2 ^ i : Nat) : Int) := by
  have := or_i64 x (y * 2 ^ i) hx2 hy
  rw [or_hi i x y hx, Int.natCast_mul] at this
  exact this
/-- Numbers of two, four bytes. -/
def f2 (l : List UInt8) (o : Nat) : Nat := (l.getD o 0).toNat + (l.getD (o + 1) 0).toNat * 256
def f4 (l : List UInt8) (o : Nat) : Nat := (l.getD o 0).toNat + (l.getD (o + 1) 0).toNat * 256 + (l.getD (o + 2) 0).toNat * 65536 + (l.getD (o + 3) 0).toNat * 16777216
theorem f2_lt (l : List UInt8) (o : Nat) : f2 l o < 65536 := by
  have h0 := UInt8.toNat_lt (l.getD o 0)
  have h1 := UInt8.toNat_lt (l.getD (o + 1) 0)
  unfold f2; omega
theorem f4_lt (l : List UInt8) (o : Nat) : f4 l o < 4294967296 := by
  have h0 := UInt8.toNat_lt (l.getD o 0)
  have h1 := UInt8.toNat_lt (l.getD (o + 1) 0)
  have h2 := UInt8.toNat_lt (l.getD (o + 2) 0)
  have h3 := UInt8.toNat_lt (l.getD (o + 3) 0)
  unfold f4; omega
end Go.Tk
namespace Go.Proofs.Ytgajpekolamjbaa
open Go.RowKit Go.Tk
theorem byte_cell {w : World} {a : Option Addr} {n c : Nat} {l : List UInt8} (h : SlI .u8 w a n c (nums l)) (i : Nat) (hi : i < n) : ∃ b o, a = some ⟨b, o, none⟩ ∧ w.cell? ⟨b, o + i, none⟩ = some (.int .u8 ((l.getD i 0).toNat : Nat)) := by
  have hl : l.length = n := by have := h.len; rwa [nums_len] at this
  obtain ⟨b, o, e, hc⟩ := h.cell i hi
  refine ⟨b, o, e, ?_⟩
  rw [hc, nums_getD l i (by omega), List.getD_eq_getElem?_getD, List.getElem?_eq_getElem (by omega)]
  rfl
set_option maxRecDepth 100000 in
set_option maxHeartbeats 1000000 in
theorem two_calls (w : World) (a : Option Addr) (n c : Nat) (l : List UInt8) (h : SlI .u8 w a n c (nums l)) (hn : 2 ≤ n) :
    Calls Try.prog 100 #[.slice a n c] w fun e w' => e = .returned (.int .i64 (f2 l 0 : Nat)) ∧ ∃ k, w' = w.drewN k := by
  obtain ⟨b, o, rfl, c0⟩ := byte_cell h 0 (by omega)
  obtain ⟨b', o', e, c1⟩ := byte_cell h 1 (by omega)
  obtain ⟨rfl, rfl⟩ : b = b' ∧ o = o' := by simpa using e
  unfold f2
  rw [Nat.add_zero] at c0
  have h0 := UInt8.toNat_lt (l.getD 0 0)
  have h1 := UInt8.toNat_lt (l.getD 1 0)
  simp only [Nat.zero_add]
  obtain ⟨y0, hy0⟩ : ∃ y, y = (l.getD 0 0).toNat := ⟨_, rfl⟩
  obtain ⟨y1, hy1⟩ : ∃ y, y = (l.getD 1 0).toNat := ⟨_, rfl⟩
  rw [← hy0] at c0 h0 ⊢
  rw [← hy1] at c1 h1 ⊢
  obtain ⟨z1, hz1⟩ : ∃ z, z = y0 + y1 * 256 := ⟨_, rfl⟩
  have e1 := or_step 8 y0 y1 h0 (by omega) (by omega)
  rw [show (2 : Nat) ^ 8 = 256 from rfl, ← hz1] at e1
  rw [show (((2 : Nat) ^ 8 : Nat) : Int) = 256 from rfl] at e1
  rw [← hz1]
  clear h e hy0 hy1 hz1
  go_enter Try.func100, Try.ntmps100
  go_wp2_with fail
  go_quiet (fail)
  go_wp2
  go_ret
  exact ⟨rfl, _, rfl⟩
set_option maxRecDepth 100000 in
set_option maxHeartbeats 1000000 in
theorem four_calls (w : World) (a : Option Addr) (n c : Nat) (l : List UInt8) (h : SlI .u8 w a n c (nums l)) (hn : 4 ≤ n) :
    Calls Try.prog 99 #[.slice a n c] w fun e w' => e = .returned (.int .i64 (f4 l 0 : Nat)) ∧ ∃ k, w' = w.drewN k := by
  obtain ⟨b, o, rfl, c0⟩ := byte_cell h 0 (by omega)
  obtain ⟨b', o', e, c1⟩ := byte_cell h 1 (by omega)
  obtain ⟨rfl, rfl⟩ : b = b' ∧ o = o' := by simpa using e
  obtain ⟨b', o', e', c2⟩ := byte_cell h 2 (by omega)
  obtain ⟨rfl, rfl⟩ : b = b' ∧ o = o' := by simpa using e'
  obtain ⟨b', o', e'', c3⟩ := byte_cell h 3 (by omega)
  obtain ⟨rfl, rfl⟩ : b = b' ∧ o = o' := by simpa using e''
  unfold f4
  rw [Nat.add_zero] at c0
  simp only [Nat.zero_add]
  have h0 := UInt8.toNat_lt (l.getD 0 0)
  have h1 := UInt8.toNat_lt (l.getD 1 0)
  have h2 := UInt8.toNat_lt (l.getD 2 0)
  have h3 := UInt8.toNat_lt (l.getD 3 0)
  obtain ⟨y0, hy0⟩ : ∃ y, y = (l.getD 0 0).toNat := ⟨_, rfl⟩
  obtain ⟨y1, hy1⟩ : ∃ y, y = (l.getD 1 0).toNat := ⟨_, rfl⟩
  obtain ⟨y2, hy2⟩ : ∃ y, y = (l.getD 2 0).toNat := ⟨_, rfl⟩
  obtain ⟨y3, hy3⟩ : ∃ y, y = (l.getD 3 0).toNat := ⟨_, rfl⟩
  rw [← hy0] at c0 h0 ⊢
  rw [← hy1] at c1 h1 ⊢
  rw [← hy2] at c2 h2 ⊢
  rw [← hy3] at c3 h3 ⊢
  obtain ⟨z1, hz1⟩ : ∃ z, z = y0 + y1 * 256 := ⟨_, rfl⟩
  have e1 := or_step 8 y0 y1 h0 (by omega) (by omega)
  rw [show (2 : Nat) ^ 8 = 256 from rfl, ← hz1] at e1
  rw [show (((2 : Nat) ^ 8 : Nat) : Int) = 256 from rfl] at e1
  rw [← hz1]
  obtain ⟨z2, hz2⟩ : ∃ z, z = z1 + y2 * 65536 := ⟨_, rfl⟩
  have e2 := or_step 16 z1 y2 (by omega) (by omega) (by omega)
  rw [show (2 : Nat) ^ 16 = 65536 from rfl, ← hz2] at e2
  rw [show (((2 : Nat) ^ 16 : Nat) : Int) = 65536 from rfl] at e2
  rw [← hz2]
  obtain ⟨z3, hz3⟩ : ∃ z, z = z2 + y3 * 16777216 := ⟨_, rfl⟩
  have e3 := or_step 24 z2 y3 (by omega) (by omega) (by omega)
  rw [show (2 : Nat) ^ 24 = 16777216 from rfl, ← hz3] at e3
  rw [show (((2 : Nat) ^ 24 : Nat) : Int) = 16777216 from rfl] at e3
  rw [← hz3]
  clear h e e' e'' hy0 hy1 hy2 hy3 hz1 hz2 hz3
  go_enter Try.func99, Try.ntmps99
  go_wp2_with fail
  go_quiet (fail)
  go_wp2
  go_ret
  exact ⟨rfl, _, rfl⟩
end Go.Proofs.Ytgajpekolamjbaa
