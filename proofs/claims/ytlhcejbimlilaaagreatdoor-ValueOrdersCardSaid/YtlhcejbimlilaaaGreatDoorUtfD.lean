/- Bytes UtfD, laid as one. -/
import Derived.Test.YtlhcejbimlilaaaGreatDoorOwn
import Derived.Lib.AppendStr
import Derived.Lib.Strings
import Derived.Laws.IdiomStrings
import Derived.Laws.BytesArg
set_option linter.unusedVariables false
set_option linter.unusedSimpArgs false
/- Bytes: slices that the call owns, as bytes; append of a string; strings of bytes. -/
namespace Go.Tk
open Go Go.RowKit
/-- Bytes as numbers. -/
def nums (l : List UInt8) : List Int := l.map fun b => (b.toNat : Int)
theorem nums_len (l : List UInt8) : (nums l).length = l.length := by simp [nums]
theorem nums_append (a b : List UInt8) : nums (a ++ b) = nums a ++ nums b := by simp [nums]
theorem nums_getD (l : List UInt8) (i : Nat) (h : i < l.length) : (nums l).getD i 0 = (l[i].toNat : Int) := by simp [nums, h]
/-- A shorter front of an owned row is owned. -/
theorem Ow.front {k : IntKind} {e : TypeId} {base : Nat} {w : World} {a : Option Addr} {n c : Nat} {zs : List Int} (h : Ow k e base w (.slice a n c) zs) (m : Nat) (hm : m ≤ zs.length) : Ow k e base w (.slice a m c) (zs.take m) := by
  have hlen : (zs.take m).length = m := by simp; omega
  unfold Ow at h ⊢
  refine ⟨by simp, ?_⟩
  rcases h.2 with ⟨hv, hz⟩ | ⟨g, cap, cur, hv, hb, hg, h1, h2, h3, h4⟩
  · simp at hv hz
    obtain ⟨rfl, rfl, rfl⟩ := hv
    left
    subst hz
    have : m = 0 := by simpa using hm
    subst this
    simp
  · simp at hv
    obtain ⟨rfl, hn, rfl⟩ := hv
    right
    refine ⟨g, c, cur, by rw [hlen], hb, hg, by omega, h2, h3, ?_⟩
    rw [hlen, Nat.mul_one, List.map_take]
    rw [Nat.mul_one] at h4
    rw [← h4, List.take_take, Nat.min_eq_left hm]
/-- string(v) of bytes that the call owns. -/
theorem Ow.str {P : Program} {w : World} {base src dst e : TypeId} {v : Value} {bs : List UInt8} (hs : P.underlying src = some (.slice e)) (he : P.underlying e = some (.int .u8)) (hd : P.underlying dst = some .string)
    (h : Ow .u8 e base w v (nums bs)) : (convert src dst v).run P w = .ok (.string ⟨bs.toArray⟩) w := by
  rcases h.2 with ⟨rfl, h0⟩ | ⟨g, cap, cur, rfl, _, hg, h1, h2, h3, h4⟩
  · have : bs = [] := by rw [nums_len] at h0; exact List.eq_nil_of_length_eq_zero h0
    subst this
    exact run_convert_bytes_nil w src e hs he 0 0 dst hd
  · rw [nums_len]
    refine run_convert_bytes_back w src dst e ⟨g, 0, none⟩ cap bs hs he hd fun j hj => ?_
    have hc := World.ownsRow.cells h (g := g) rfl j (.int .u8 bs[j].toNat) (by simp [nums, hj])
    exact hc
end Go.Tk
/- Scalars and their bytes, read and written: plain. -/
namespace Go.Tk
open Go Go.RowKit
/-- Is a number a scalar? -/
def scalarB (r : Int) : Bool := decide (0 ≤ r ∧ r ≤ 1114111 ∧ (r < 55296 ∨ 57343 < r))
/-- How many bytes begin with this one; its own bits. -/
def ldN (b : UInt8) : Nat := if b.toNat < 128 then 1 else if b.toNat < 192 then 0 else if b.toNat < 224 then 2 else if b.toNat < 240 then 3 else if b.toNat < 248 then 4 else 0
def ldR (b : UInt8) : Int := if b.toNat < 128 then (b.toNat : Int) else if b.toNat < 192 then 0 else if b.toNat < 224 then ((b.toNat % 32 : Nat) : Int) else if b.toNat < 240 then ((b.toNat % 16 : Nat) : Int) else if b.toNat < 248 then ((b.toNat % 8 : Nat) : Int) else 0
/-- The bits of the bytes behind the first. -/
def contR : List UInt8 → Int → Option Int
  | [], r => some r
  | c :: t, r => if c.toNat / 64 = 2 then contR t (r * 64 + ((c.toNat % 64 : Nat) : Int)) else none
def leastI (n : Nat) : Int := if n = 2 then 128 else if n = 3 then 2048 else if n = 4 then 65536 else 0
def dec : List UInt8 → Int × Nat
  | [] => (0, 0)
  | b :: t => if ldN b = 0 ∨ t.length + 1 < ldN b then (0, 0) else
    match contR (t.take (ldN b - 1)) (ldR b) with
    | none => (0, 0)
    | some r => if r < leastI (ldN b) ∨ scalarB r = false then (0, 0) else (r, ldN b)
end Go.Tk
