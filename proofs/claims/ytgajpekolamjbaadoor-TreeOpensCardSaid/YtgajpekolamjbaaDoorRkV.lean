/- RkX RkF RkV, laid as one. -/
import Derived.Test.YtgajpekolamjbaaDoorRkH
import Derived.Deep.QuietTactic
import Derived.Test.YtgajpekolamjbaaDoorReg
import Derived.BigQuiet
import Derived.Test.YtgajpekolamjbaaDoorQu
set_option linter.unusedVariables false
set_option linter.unusedSimpArgs false
/- Build of any bytes and number: the program's, the document's. -/
namespace Go.Tk
open Go Go.RowKit
def bErr (d : List UInt8) (N : Int) : Int := if N < 0 ∨ 67108864 < N then 2 else if (d.length : Int) < (N + 7) / 8 then 10 else if (N + 7) / 8 < (d.length : Int) then 13 else if padB d N.toNat = false then 12 else 0
theorem bErr_ok {d : List UInt8} {N : Int} (h : bErr d N = 0) : ∃ n : Nat, N = n ∧ n ≤ 67108864 ∧ d.length = (n + 7) / 8 ∧ padB d n = true := by
  unfold bErr at h
  by_cases h1 : N < 0 ∨ 67108864 < N
  · rw [if_pos h1] at h; exact absurd h (by decide)
  rw [if_neg h1] at h
  by_cases h2 : (d.length : Int) < (N + 7) / 8
  · rw [if_pos h2] at h; exact absurd h (by decide)
  rw [if_neg h2] at h
  by_cases h3 : (N + 7) / 8 < (d.length : Int)
  · rw [if_pos h3] at h; exact absurd h (by decide)
  rw [if_neg h3] at h
  obtain ⟨n, rfl⟩ : ∃ n : Nat, N = n := ⟨N.toNat, by omega⟩
  by_cases h4 : padB d n = true
  · exact ⟨n, rfl, by omega, by omega, h4⟩
  · rw [Int.toNat_natCast, if_pos (by simpa using h4)] at h; exact absurd h (by decide)
theorem bErr_yes {d : List UInt8} {n : Nat} (h1 : n ≤ 67108864) (h2 : d.length = (n + 7) / 8) (h3 : padB d n = true) : bErr d n = 0 := by
  unfold bErr
  rw [if_neg (by omega), if_neg (by omega), if_neg (by omega), Int.toNat_natCast, if_neg (by simp [h3])]
end Go.Tk
namespace Go.Proofs.YtgajpekolamjbaaDoor
open Go.RowKit Go.Tk
end Go.Proofs.YtgajpekolamjbaaDoor
/- four, two of the program. -/
namespace Go.Tk
open Go Go.RowKit
theorem or_i64 (x y : Nat) (hx : x < 4611686018427387904) (hy : y < 4611686018427387904) : bits .or .i64 (x : Int) (y : Int) = ((x ||| y : Nat) : Int) := by
  have key : (BitVec.ofInt 64 (x : Int) ||| BitVec.ofInt 64 (y : Int)).toNat = x ||| y := by
    rw [BitVec.toNat_or, BitVec.toNat_ofInt, BitVec.toNat_ofInt]
    have e1 : ((x : Int) % ((2 ^ 64 : Nat) : Int)).toNat = x := by omega
    have e2 : ((y : Int) % ((2 ^ 64 : Nat) : Int)).toNat = y := by omega
    rw [e1, e2]
  show IntKind.i64.wrap ((BitVec.ofInt 64 (x : Int) ||| BitVec.ofInt 64 (y : Int)).toNat : Nat) = _
  rw [key, IntKind.wrap_i64]
  have : x ||| y < 2 ^ 62 := Nat.or_lt_two_pow (by omega) (by omega)
  omega
theorem or_hi (i x y : Nat) (hx : x < 2 ^ i) : x ||| (y * 2 ^ i) = x + y * 2 ^ i := by
  rw [Nat.mul_comm, Nat.or_comm, ← Nat.two_pow_add_eq_or_of_lt hx, Nat.add_comm]
theorem or_step (i x y : Nat) (hx : x < 2 ^ i) (hx2 : x < 4611686018427387904) (hy : y * 2 ^ i < 4611686018427387904) : bits .or .i64 (x : Int) ((y : Int) * ((2 ^ i : Nat) : Int)) = ((x + y * 2 ^ i : Nat) : Int) := by
  have := or_i64 x (y * 2 ^ i) hx2 hy
  rw [or_hi i x y hx, Int.natCast_mul] at this
  exact this
/-- Numbers of two, four bytes. -/
def f2 (l : List UInt8) (o : Nat) : Nat := (l.getD o 0).toNat + (l.getD (o + 1) 0).toNat * 256
def f4 (l : List UInt8) (o : Nat) : Nat := (l.getD o 0).toNat + (l.getD (o + 1) 0).toNat * 256 + (l.getD (o + 2) 0).toNat * 65536 + (l.getD (o + 3) 0).toNat * 16777216
theorem f2_lt (l : List UInt8) (o : Nat) : f2 l o < 65536 := by
  have h0 := UInt8.toNat_lt (l.getD o 0)
  have h1 := UInt8.toNat_lt (l.getD (o + 1) 0)
  unfold f2; omega
theorem f4_lt (l : List UInt8) (o : Nat) : f4 l o < 4294967296 := by
  have h0 := UInt8.toNat_lt (l.getD o 0)
  have h1 := UInt8.toNat_lt (l.getD (o + 1) 0)
  have h2 := UInt8.toNat_lt (l.getD (o + 2) 0)
  have h3 := UInt8.toNat_lt (l.getD (o + 3) 0)
  unfold f4; omega
end Go.Tk
namespace Go.Proofs.YtgajpekolamjbaaDoor
open Go.RowKit Go.Tk
theorem byte_cell {w : World} {a : Option Addr} {n c : Nat} {l : List UInt8} (h : SlI .u8 w a n c (nums l)) (i : Nat) (hi : i < n) : ∃ b o, a = some ⟨b, o, none⟩ ∧ w.cell? ⟨b, o + i, none⟩ = some (.int .u8 ((l.getD i 0).toNat : Nat)) := by
  have hl : l.length = n := by have := h.len; rwa [nums_len] at this
  obtain ⟨b, o, e, hc⟩ := h.cell i hi
  refine ⟨b, o, e, ?_⟩
  rw [hc, nums_getD l i (by omega), List.getD_eq_getElem?_getD, List.getElem?_eq_getElem (by omega)]
  rfl
set_option maxRecDepth 100000 in
set_option maxHeartbeats 1000000 in
theorem two_calls (w : World) (a : Option Addr) (n c : Nat) (l : List UInt8) (h : SlI .u8 w a n c (nums l)) (hn : 2 ≤ n) :
    Calls Tryd.prog 67 #[.slice a n c] w fun e w' => e = .returned (.int .i64 (f2 l 0 : Nat)) ∧ ∃ k, w' = w.drewN k := by
  obtain ⟨b, o, rfl, c0⟩ := byte_cell h 0 (by omega)
  obtain ⟨b', o', e, c1⟩ := byte_cell h 1 (by omega)
  obtain ⟨rfl, rfl⟩ : b = b' ∧ o = o' := by simpa using e
  unfold f2
  rw [Nat.add_zero] at c0
  have h0 := UInt8.toNat_lt (l.getD 0 0)
  have h1 := UInt8.toNat_lt (l.getD 1 0)
  simp only [Nat.zero_add]
  obtain ⟨y0, hy0⟩ : ∃ y, y = (l.getD 0 0).toNat := ⟨_, rfl⟩
  obtain ⟨y1, hy1⟩ : ∃ y, y = (l.getD 1 0).toNat := ⟨_, rfl⟩
  rw [← hy0] at c0 h0 ⊢
  rw [← hy1] at c1 h1 ⊢
  obtain ⟨z1, hz1⟩ : ∃ z, z = y0 + y1 * 256 := ⟨_, rfl⟩
  have e1 := or_step 8 y0 y1 h0 (by omega) (by omega)
  rw [show (2 : Nat) ^ 8 = 256 from rfl, ← hz1] at e1
  rw [show (((2 : Nat) ^ 8 : Nat) : Int) = 256 from rfl] at e1
  rw [← hz1]
  clear h e hy0 hy1 hz1
  go_enter Tryd.func67, Tryd.ntmps67
  go_wp2_with fail
  go_quiet (fail)
  go_wp2
  go_ret
  exact ⟨rfl, _, rfl⟩
set_option maxRecDepth 100000 in
set_option maxHeartbeats 1000000 in
theorem four_calls (w : World) (a : Option Addr) (n c : Nat) (l : List UInt8) (h : SlI .u8 w a n c (nums l)) (hn : 4 ≤ n) :
    Calls Tryd.prog 47 #[.slice a n c] w fun e w' => e = .returned (.int .i64 (f4 l 0 : Nat)) ∧ ∃ k, w' = w.drewN k := by
  obtain ⟨b, o, rfl, c0⟩ := byte_cell h 0 (by omega)
  obtain ⟨b', o', e, c1⟩ := byte_cell h 1 (by omega)
  obtain ⟨rfl, rfl⟩ : b = b' ∧ o = o' := by simpa using e
  obtain ⟨b', o', e', c2⟩ := byte_cell h 2 (by omega)
  obtain ⟨rfl, rfl⟩ : b = b' ∧ o = o' := by simpa using e'
  obtain ⟨b', o', e'', c3⟩ := byte_cell h 3 (by omega)
  obtain ⟨rfl, rfl⟩ : b = b' ∧ o = o' := by simpa using e''
  unfold f4
  rw [Nat.add_zero] at c0
  simp only [Nat.zero_add]
  have h0 := UInt8.toNat_lt (l.getD 0 0)
  have h1 := UInt8.toNat_lt (l.getD 1 0)
  have h2 := UInt8.toNat_lt (l.getD 2 0)
  have h3 := UInt8.toNat_lt (l.getD 3 0)
  obtain ⟨y0, hy0⟩ : ∃ y, y = (l.getD 0 0).toNat := ⟨_, rfl⟩
  obtain ⟨y1, hy1⟩ : ∃ y, y = (l.getD 1 0).toNat := ⟨_, rfl⟩
  obtain ⟨y2, hy2⟩ : ∃ y, y = (l.getD 2 0).toNat := ⟨_, rfl⟩
  obtain ⟨y3, hy3⟩ : ∃ y, y = (l.getD 3 0).toNat := ⟨_, rfl⟩
  rw [← hy0] at c0 h0 ⊢
  rw [← hy1] at c1 h1 ⊢
  rw [← hy2] at c2 h2 ⊢
  rw [← hy3] at c3 h3 ⊢
  obtain ⟨z1, hz1⟩ : ∃ z, z = y0 + y1 * 256 := ⟨_, rfl⟩
  have e1 := or_step 8 y0 y1 h0 (by omega) (by omega)
  rw [show (2 : Nat) ^ 8 = 256 from rfl, ← hz1] at e1
  rw [show (((2 : Nat) ^ 8 : Nat) : Int) = 256 from rfl] at e1
  rw [← hz1]
  obtain ⟨z2, hz2⟩ : ∃ z, z = z1 + y2 * 65536 := ⟨_, rfl⟩
  have e2 := or_step 16 z1 y2 (by omega) (by omega) (by omega)
  rw [show (2 : Nat) ^ 16 = 65536 from rfl, ← hz2] at e2
  rw [show (((2 : Nat) ^ 16 : Nat) : Int) = 65536 from rfl] at e2
  rw [← hz2]
  obtain ⟨z3, hz3⟩ : ∃ z, z = z2 + y3 * 16777216 := ⟨_, rfl⟩
  have e3 := or_step 24 z2 y3 (by omega) (by omega) (by omega)
  rw [show (2 : Nat) ^ 24 = 16777216 from rfl, ← hz3] at e3
  rw [show (((2 : Nat) ^ 24 : Nat) : Int) = 16777216 from rfl] at e3
  rw [← hz3]
  clear h e e' e'' hy0 hy1 hy2 hy3 hz1 hz2 hz3
  go_enter Tryd.func47, Tryd.ntmps47
  go_wp2_with fail
  go_quiet (fail)
  go_wp2
  go_ret
  exact ⟨rfl, _, rfl⟩
end Go.Proofs.YtgajpekolamjbaaDoor
/- A vector's object; Len, Ones, Bit, Rank, Rank0. -/
namespace Go.Tk
open Go Go.RowKit
def oG (n : Nat) : Nat := 8 + (n + 7) / 8
def oS (n : Nat) : Nat := oG n + 4 * ((n + 2047) / 2048)
def oM (n : Nat) : Nat := oS n + 2 * ((n + 255) / 256)
def oE (n m : Nat) : Nat := oM n + 4 * ((m + 511) / 512)
/-- The data of a vector's bytes, and all behind them. -/
def datB (bs : List UInt8) : List UInt8 := bs.drop 8
/-- What Rank reckons at a place inside. -/
def rawV (bs : List UInt8) (n i : Nat) : Nat := f4 bs (oG n + 4 * (i / 2048)) + f2 bs (oS n + 2 * (i / 256)) + (cntB (datB bs) i - cntB (datB bs) (i / 256 * 256))
def rankV (bs : List UInt8) (n m : Nat) (i : Int) : Nat := if i ≤ 0 ∨ n = 0 then 0 else if (n : Int) ≤ i then m else min (rawV bs n i.toNat) i.toNat
theorem drop_getD (l : List UInt8) (p i : Nat) : (l.drop p).getD i 0 = l.getD (p + i) 0 := by
  simp [List.getD_eq_getElem?_getD, List.getElem?_drop]
theorem f4_drop (l : List UInt8) (p : Nat) : f4 (l.drop p) 0 = f4 l p := by
  unfold f4; simp only [drop_getD, Nat.zero_add, Nat.add_zero]
theorem f2_drop (l : List UInt8) (p : Nat) : f2 (l.drop p) 0 = f2 l p := by
  unfold f2; simp only [drop_getD, Nat.zero_add, Nat.add_zero]
theorem quiet_dr {P : Program} {w : World} {f : FuncId} {args : Array Value} {n : Nat} {v : Value}
    (h : Calls P f args (w.drewN n) fun e w' => e = .returned v ∧ ∃ k, w' = (w.drewN n).drewN k) : Calls P f args (w.drewN n) fun e w'' => e = .returned v ∧ ∃ m, w'' = w.drewN m :=
  h.mono fun _ _ ⟨he, k, hk⟩ => ⟨he, n + k, by rw [hk]; simp [World.drewN, Nat.add_assoc]⟩
theorem byte_low : ∀ y : Fin 256, ∀ v : Fin 8, Lib.onesCount (y.val % 2 ^ v.val) = (List.range v.val).foldl (fun a j => a + (if y.val.testBit j = true then 1 else 0)) 0 := by decide +kernel
theorem cnt_low (d : List UInt8) (q : Nat) (v : Nat) (hv : v < 8) : cntB d (8 * q + v) = cntB d (8 * q) + Lib.onesCount ((d.getD q 0).toNat % 2 ^ v) := by
  have h := byte_low ⟨(d.getD q 0).toNat, UInt8.toNat_lt _⟩ ⟨v, hv⟩
  simp only at h
  rw [h]
  have e : ∀ j, j < 8 → btB d (8 * q + j) = (d.getD q 0).toNat.testBit j := fun j hj => bt_at d q j hj
  have key : ∀ k, k ≤ 8 → cntB d (8 * q + k) = cntB d (8 * q) + (List.range k).foldl (fun a j => a + (if (d.getD q 0).toNat.testBit j = true then 1 else 0)) 0 := by
    intro k
    induction k with
    | zero => intro _; rfl
    | succ k ih =>
      intro hk
      rw [← Nat.add_assoc]
      simp only [cntB]
      rw [ih (by omega), e k (by omega), List.range_succ, List.foldl_append]
      simp only [List.foldl_cons, List.foldl_nil]
      omega
  exact key v (by omega)
theorem pow7 {v : Nat} (h : v < 8) : 2 ^ v ≤ 128 := by
  have : ∀ v : Fin 8, 2 ^ v.val ≤ 128 := by decide
  exact this ⟨v, h⟩
theorem mask_and : ∀ y : Fin 256, ∀ v : Fin 8, bits .and .u8 (y.val : Int) (2 ^ v.val - 1) = ((y.val % 2 ^ v.val : Nat) : Int) := by decide +kernel
end Go.Tk
namespace Go.Proofs.YtgajpekolamjbaaDoor
open Go.RowKit Go.Tk
structure VecAt (w : World) (gv : Nat) (a : Option Addr) (c : Nat) (bs : List UInt8) (n m : Nat) : Prop where
  row : w.heap[gv]? = some (.cells #[.slice a bs.length c, .int .i64 (n : Nat), .int .i64 (m : Nat), .int .i64 8, .int .i64 (oG n : Nat), .int .i64 (oS n : Nat), .int .i64 (oM n : Nat), .int .i64 (oE n m : Nat)] 87 (0, 0))
  sl : SlI .u8 w a bs.length c (nums bs)
  fit : bs.length = oE n m
  mn : m ≤ n
  nN : n ≤ 67108864
theorem VecAt.drewN {w gv a c bs n m} (h : VecAt w gv a c bs n m) (k : Nat) : VecAt (w.drewN k) gv a c bs n m := ⟨h.row, h.sl.drewN k, h.fit, h.mn, h.nN⟩
theorem VecAt.k0 {w gv a c bs n m} (h : VecAt w gv a c bs n m) : w.cell? ⟨gv, 0, none⟩ = some (.slice a bs.length c) := cell_of_row w gv 0 _ _ _ h.row
theorem VecAt.k1 {w gv a c bs n m} (h : VecAt w gv a c bs n m) : w.cell? ⟨gv, 1, none⟩ = some (.int .i64 (n : Nat)) := cell_of_row w gv 1 _ _ _ h.row
theorem VecAt.k2 {w gv a c bs n m} (h : VecAt w gv a c bs n m) : w.cell? ⟨gv, 2, none⟩ = some (.int .i64 (m : Nat)) := cell_of_row w gv 2 _ _ _ h.row
theorem VecAt.k3 {w gv a c bs n m} (h : VecAt w gv a c bs n m) : w.cell? ⟨gv, 3, none⟩ = some (.int .i64 8) := cell_of_row w gv 3 _ _ _ h.row
theorem VecAt.k4 {w gv a c bs n m} (h : VecAt w gv a c bs n m) : w.cell? ⟨gv, 4, none⟩ = some (.int .i64 (oG n : Nat)) := cell_of_row w gv 4 _ _ _ h.row
theorem VecAt.k5 {w gv a c bs n m} (h : VecAt w gv a c bs n m) : w.cell? ⟨gv, 5, none⟩ = some (.int .i64 (oS n : Nat)) := cell_of_row w gv 5 _ _ _ h.row
theorem cell_bytes {w : World} {b o n c : Nat} {l : List UInt8} (h : SlI .u8 w (some ⟨b, o, none⟩) n c (nums l)) (i : Nat) (hi : i < n) : w.cell? ⟨b, o + i, none⟩ = some (.int .u8 ((l.getD i 0).toNat : Nat)) := by
  obtain ⟨b', o', e, hc⟩ := byte_cell h i hi
  obtain ⟨rfl, rfl⟩ : b = b' ∧ o = o' := by simpa using e
  exact hc
theorem ones_calls {w gv a c bs n m} (h : VecAt w gv a c bs n m) : Calls Tryd.prog 18 #[.pointer (some ⟨gv, 0, none⟩)] w fun e w' => e = .returned (.int .i64 (m : Nat)) ∧ w = w' := by
  have k2 := h.k2
  clear h
  go_enter Tryd.func18, Tryd.ntmps18
  go_wp2
  go_ret
  exact ⟨rfl, rfl⟩
end Go.Proofs.YtgajpekolamjbaaDoor
