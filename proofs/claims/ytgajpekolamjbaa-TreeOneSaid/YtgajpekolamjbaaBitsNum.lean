/- Base BitsNum, laid as one. -/
import Derived.WalkKit
import Derived.Deep.Draws
import Derived.Lib.Hide
set_option linter.unusedVariables false
set_option linter.unusedSimpArgs false
/- Small laws used by all texts of this seat. -/
namespace Go.Tk
open Go Go.RowKit
theorem below_drewN {B : Nat} {a w : World} (h : Below B a w) (n : Nat) : Below B a (w.drewN n) := ⟨h.os, h.tape, h.output, h.size, h.block⟩
/-- The slice 'a, n, cap' reads as the numbers zs. -/
structure SlI (k : IntKind) (w : World) (a : Option Addr) (n cap : Nat) (zs : List Int) : Prop where
  len : zs.length = n
  le : n ≤ cap
  max : cap ≤ 9223372036854775807
  cell : ∀ i, i < n → ∃ b o, a = some ⟨b, o, none⟩ ∧ w.cell? ⟨b, o + i, none⟩ = some (.int k (zs.getD i 0))
theorem SlI.drewN {k : IntKind} {w : World} {a : Option Addr} {n cap : Nat} {zs : List Int} (h : SlI k w a n cap zs) (m : Nat) : SlI k (w.drewN m) a n cap zs := ⟨h.len, h.le, h.max, h.cell⟩
theorem SlI.below {k : IntKind} {w w' : World} {B : Nat} {a : Option Addr} {n cap : Nat} {zs : List Int} (h : SlI k w a n cap zs) (hb : Below B w w') (ha : ∀ x, a = some x → x.block < B) : SlI k w' a n cap zs :=
  ⟨h.len, h.le, h.max, fun i hi => by
    obtain ⟨b, o, rfl, hc⟩ := h.cell i hi
    exact ⟨b, o, rfl, (hb.cell (p := ⟨b, o + i, none⟩) (ha ⟨b, o, none⟩ rfl)).trans hc⟩⟩
theorem SlI.alloc {k : IntKind} {w : World} {a : Option Addr} {n cap : Nat} {zs : List Int} (h : SlI k w a n cap zs) (o : Obj) : SlI k (w.alloc o) a n cap zs :=
  ⟨h.len, h.le, h.max, fun i hi => by
    obtain ⟨b, p, rfl, hc⟩ := h.cell i hi
    exact ⟨b, p, rfl, (((Below.refl w.heap.size w).alloc (Nat.le_refl _) o).cell (p := ⟨b, p + i, none⟩) (block_lt_of_cell hc)).trans hc⟩⟩
/-- Whatever keeps all old blocks keeps a slice that reads. -/
theorem SlI.keep {k : IntKind} {w w' : World} {a : Option Addr} {n cap : Nat} {zs : List Int} (h : SlI k w a n cap zs) (hb : Below w.heap.size w w') : SlI k w' a n cap zs :=
  ⟨h.len, h.le, h.max, fun i hi => by
    obtain ⟨b, p, rfl, hc⟩ := h.cell i hi
    exact ⟨b, p, rfl, (hb.cell (p := ⟨b, p + i, none⟩) (block_lt_of_cell hc)).trans hc⟩⟩
/-- Are two lists of numbers one? -/
def sameB (x y : List Int) : Bool := decide (x = y)
theorem sameB_yes {x y : List Int} (h : x = y) : sameB x y = true := by simp [sameB, h]
theorem sameB_no {x y : List Int} (h : x ≠ y) : sameB x y = false := by simp [sameB, h]
theorem take_step {x y : List Int} {k : Nat} (h : x.take k = y.take k) (hx : k < x.length) (hy : k < y.length) (he : x.getD k 0 = y.getD k 0) : x.take (k + 1) = y.take (k + 1) := by
  rw [List.take_succ_eq_append_getElem hx, List.take_succ_eq_append_getElem hy, h]
  simp [hx, hy] at he
  rw [he]
theorem ret_bool {a b : Bool} (h : a = b) : Ending.returned (.bool a) = .returned (.bool b) := by rw [h]
theorem ret_int {k : IntKind} {a b : Int} (h : a = b) : Ending.returned (.int k a) = .returned (.int k b) := by rw [h]
end Go.Tk
/- Varints and fixed numbers: the bytes. -/
namespace Go.Tk
open Go
/-- A number's varint, at most so many bytes more. -/
def vzN : Nat → Int → List Int
  | 0, n => [n % 256]
  | f + 1, n => if 128 ≤ n then bits .or .u8 (n % 256) 128 :: vzN f (n / 128) else [n % 256]
def vz (n : Int) : List Int := vzN 9 n
theorem vzN_fuel : ∀ (f : Nat) (n : Int), n < 128 ^ (f + 1) → ∀ g, f ≤ g → vzN g n = vzN f n
  | 0, n, h, g, _ => by
    cases g with
    | zero => rfl
    | succ g => simp only [vzN]; rw [if_neg (by simpa using h)]
  | f + 1, n, h, g, hg => by
    obtain ⟨g', rfl⟩ : ∃ g', g = g' + 1 := ⟨g - 1, by omega⟩
    simp only [vzN]
    by_cases h1 : 128 ≤ n
    · rw [if_pos h1, if_pos h1, vzN_fuel f (n / 128) (by rw [Int.pow_succ] at h; omega) g' (by omega)]
    · rw [if_neg h1, if_neg h1]
theorem vz_step {n : Int} (h : 128 ≤ n) (h2 : n < 18446744073709551616) : vz n = bits .or .u8 (n % 256) 128 :: vz (n / 128) := by
  have e : vzN 9 n = bits .or .u8 (n % 256) 128 :: vzN 8 (n / 128) := by simp only [vzN]; rw [if_pos h]
  unfold vz
  rw [e, vzN_fuel 8 (n / 128) (by have : (128 : Int) ^ 9 = 9223372036854775808 := by decide
                                  rw [this]; omega) 9 (by omega)]
theorem vz_last {n : Int} (h : n < 128) : vz n = [n % 256] := by
  unfold vz
  simp only [vzN]
  rw [if_neg (by omega)]
theorem vzN_len : ∀ (f : Nat) (n : Int), 1 ≤ (vzN f n).length ∧ (vzN f n).length ≤ f + 1
  | 0, n => by simp [vzN]
  | f + 1, n => by
    simp only [vzN]
    split
    · have := vzN_len f (n / 128); simp; omega
    · simp
theorem vz_len (n : Int) : 1 ≤ (vz n).length ∧ (vz n).length ≤ 10 := vzN_len 9 n
/-- So many bytes of a number, the lowest first. -/
def fz (n : Int) : Nat → List Int
  | 0 => []
  | k + 1 => fz n k ++ [n / 2 ^ (8 * k) % 256]
theorem fz_len (n : Int) : ∀ k, (fz n k).length = k
  | 0 => rfl
  | k + 1 => by simp [fz, fz_len n k]
/-- How many bytes a fixed number has. -/
def oct (k : Int) : Nat := (min (max k 0) 8).toNat
theorem oct_le (k : Int) : oct k ≤ 8 := by unfold oct; omega
end Go.Tk
