/- Base VaP, laid as one. -/
import Derived.WalkKit
import Derived.Deep.Draws
import Derived.Lib.Hide
set_option linter.unusedVariables false
set_option linter.unusedSimpArgs false
/- Small laws used by all texts of this seat. -/
namespace Go.Tk
open Go Go.RowKit
theorem below_drewN {B : Nat} {a w : World} (h : Below B a w) (n : Nat) : Below B a (w.drewN n) := ⟨h.os, h.tape, h.output, h.size, h.block⟩
/-- The slice 'a, n, cap' reads as the numbers zs. -/
structure SlI (k : IntKind) (w : World) (a : Option Addr) (n cap : Nat) (zs : List Int) : Prop where
  len : zs.length = n
  le : n ≤ cap
  max : cap ≤ 9223372036854775807
  cell : ∀ i, i < n → ∃ b o, a = some ⟨b, o, none⟩ ∧ w.cell? ⟨b, o + i, none⟩ = some (.int k (zs.getD i 0))
theorem SlI.drewN {k : IntKind} {w : World} {a : Option Addr} {n cap : Nat} {zs : List Int} (h : SlI k w a n cap zs) (m : Nat) : SlI k (w.drewN m) a n cap zs := ⟨h.len, h.le, h.max, h.cell⟩
theorem SlI.below {k : IntKind} {w w' : World} {B : Nat} {a : Option Addr} {n cap : Nat} {zs : List Int} (h : SlI k w a n cap zs) (hb : Below B w w') (ha : ∀ x, a = some x → x.block < B) : SlI k w' a n cap zs :=
  ⟨h.len, h.le, h.max, fun i hi => by
    obtain ⟨b, o, rfl, hc⟩ := h.cell i hi
    exact ⟨b, o, rfl, (hb.cell (p := ⟨b, o + i, none⟩) (ha ⟨b, o, none⟩ rfl)).trans hc⟩⟩
theorem SlI.alloc {k : IntKind} {w : World} {a : Option Addr} {n cap : Nat} {zs : List Int} (h : SlI k w a n cap zs) (o : Obj) : SlI k (w.alloc o) a n cap zs :=
  ⟨h.len, h.le, h.max, fun i hi => by
    obtain ⟨b, p, rfl, hc⟩ := h.cell i hi
    exact ⟨b, p, rfl, (((Below.refl w.heap.size w).alloc (Nat.le_refl _) o).cell (p := ⟨b, p + i, none⟩) (block_lt_of_cell hc)).trans hc⟩⟩
/-- Whatever keeps all old blocks keeps a slice that reads. -/
theorem SlI.keep {k : IntKind} {w w' : World} {a : Option Addr} {n cap : Nat} {zs : List Int} (h : SlI k w a n cap zs) (hb : Below w.heap.size w w') : SlI k w' a n cap zs :=
  ⟨h.len, h.le, h.max, fun i hi => by
    obtain ⟨b, p, rfl, hc⟩ := h.cell i hi
    exact ⟨b, p, rfl, (hb.cell (p := ⟨b, p + i, none⟩) (block_lt_of_cell hc)).trans hc⟩⟩
theorem ret_int {k : IntKind} {a b : Int} (h : a = b) : Ending.returned (.int k a) = .returned (.int k b) := by rw [h]
end Go.Tk
/- Numbers as chapter 8 has them: a sign, digits without 0 at both ends, a power. Plain. -/
namespace Go.Tk
open Go Go.RowKit
/-- Digits all. -/
def dgB (b : List UInt8) : Bool := b.all fun c => decide (48 ≤ c) && decide (c ≤ 57)
structure Nm where
  below : Bool
  dg : List UInt8
  pw : Int
  inf : Int
  nan : Bool
def nmZ : Nm := ⟨false, [], 0, 0, false⟩
def tl0 (l : List UInt8) : List UInt8 := l.dropWhile (· == 48)
def tr0 (l : List UInt8) : List UInt8 := (l.reverse.dropWhile (· == 48)).reverse
/-- The number of the digits ahead of a dot, those behind it, an exponent. -/
def mkN (below : Bool) (whole part : List UInt8) (e : Int) : Nm :=
  if tr0 (tl0 (whole ++ part)) = [] then nmZ else ⟨below, tr0 (tl0 (whole ++ part)), (whole.length : Int) + e - ((whole ++ part).length - (tl0 (whole ++ part)).length : Int), 0, false⟩
def rkN (n : Nm) : Int := if n.inf ≠ 0 then 2 * n.inf else if n.dg = [] then 0 else if n.below = true then -1 else 1
def cmZ (a b : Int) : Int := if a < b then -1 else if b < a then 1 else 0
def cmB : List UInt8 → List UInt8 → Int
  | [], [] => 0
  | [], _ :: _ => -1
  | _ :: _, [] => 1
  | x :: l, y :: m => if x < y then -1 else if y < x then 1 else cmB l m
/-- Two numbers held against each other. -/
def agN (n m : Nm) : Int × Bool :=
  if n.nan = true ∨ m.nan = true then (0, false)
  else if rkN n ≠ rkN m ∨ rkN n ≠ 1 ∧ rkN n ≠ -1 then (cmZ (rkN n) (rkN m), true)
  else (rkN n * (if cmZ n.pw m.pw = 0 then cmB n.dg m.dg else cmZ n.pw m.pw), true)
theorem cmZ_neg (a b : Int) : cmZ b a = -cmZ a b := by
  unfold cmZ
  by_cases h1 : a < b
  · rw [if_neg (show ¬ b < a by omega), if_pos h1, if_pos h1]; rfl
  · rw [if_neg h1]
    by_cases h2 : b < a
    · rw [if_pos h2, if_neg h1, if_pos h2]
    · rw [if_neg h2, if_neg h2, if_neg h1]; rfl
theorem cmB_neg : ∀ (l m : List UInt8), cmB m l = -cmB l m
  | [], [] => rfl
  | [], _ :: _ => rfl
  | _ :: _, [] => rfl
  | x :: l, y :: m => by
    simp only [cmB]
    have ih := cmB_neg l m
    by_cases h1 : x < y
    · have h2 : ¬ y < x := fun h => by
        have a := UInt8.lt_iff_toNat_lt.1 h1
        have b := UInt8.lt_iff_toNat_lt.1 h
        omega
      rw [if_pos h1, if_neg h2, if_pos h1]; rfl
    · rw [if_neg h1]
      by_cases h2 : y < x
      · rw [if_pos h2, if_neg h1, if_pos h2]
      · rw [if_neg h2, if_neg h1, if_neg h2, ih]
theorem agN_neg (n m : Nm) : agN m n = (-(agN n m).1, (agN n m).2) := by
  unfold agN
  by_cases h1 : n.nan = true ∨ m.nan = true
  · rw [if_pos h1, if_pos h1.symm]; rfl
  rw [if_neg h1, if_neg (fun h => h1 h.symm)]
  by_cases h2 : rkN n ≠ rkN m ∨ rkN n ≠ 1 ∧ rkN n ≠ -1
  · rw [if_pos h2, if_pos (by omega), cmZ_neg]
  rw [if_neg h2, if_neg (by omega), cmZ_neg m.pw n.pw, cmB_neg m.dg n.dg]
  have e : rkN m = rkN n := by omega
  rw [e]
  by_cases h3 : cmZ m.pw n.pw = 0
  · rw [if_pos h3, if_pos (by omega), Int.mul_neg, Int.neg_neg]
  · rw [if_neg h3, if_neg (by omega), Int.mul_neg, Int.neg_neg]
end Go.Tk
