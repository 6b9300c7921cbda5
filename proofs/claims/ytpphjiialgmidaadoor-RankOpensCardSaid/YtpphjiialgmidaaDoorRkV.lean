/- A vector's object; Len, Ones, Bit, Rank, Rank0. -/
import Derived.Test.YtpphjiialgmidaaDoorRkF
import Derived.Test.YtpphjiialgmidaaDoorReg
import Derived.BigQuiet
import Derived.Test.YtpphjiialgmidaaDoorQu
set_option linter.unusedVariables false
set_option linter.unusedSimpArgs false
namespace Go.Tk
open Go Go.RowKit
def oG (n : Nat) : Nat := 8 + (n + 7) / 8
def oS (n : Nat) : Nat := oG n + 4 * ((n + 2047) / 2048)
def oM (n : Nat) : Nat := oS n + 2 * ((n + 255) / 256)
def oE (n m : Nat) : Nat := oM n + 4 * ((m + 511) / 512)
/-- The data of a vector's bytes, and all behind them. -/
def datB (bs : List UInt8) : List UInt8 := bs.drop 8
/-- What Rank reckons at a place inside. -/
def rawV (bs : List UInt8) (n i : Nat) : Nat := f4 bs (oG n + 4 * (i / 2048)) + f2 bs (oS n + 2 * (i / 256)) + (cntB (datB bs) i - cntB (datB bs) (i / 256 * 256))
def rankV (bs : List UInt8) (n m : Nat) (i : Int) : Nat := if i ≤ 0 ∨ n = 0 then 0 else if (n : Int) ≤ i then m else min (rawV bs n i.toNat) i.toNat
theorem drop_getD (l : List UInt8) (p i : Nat) : (l.drop p).getD i 0 = l.getD (p + i) 0 := by
  simp [List.getD_eq_getElem?_getD, List.getElem?_drop]
theorem f4_drop (l : List UInt8) (p : Nat) : f4 (l.drop p) 0 = f4 l p := by
  unfold f4; simp only [drop_getD, Nat.zero_add, Nat.add_zero]
theorem f2_drop (l : List UInt8) (p : Nat) : f2 (l.drop p) 0 = f2 l p := by
  unfold f2; simp only [drop_getD, Nat.zero_add, Nat.add_zero]
theorem quiet_dr {P : Program} {w : World} {f : FuncId} {args : Array Value} {n : Nat} {v : Value}
    (h : Calls P f args (w.drewN n) fun e w' => e = .returned v ∧ ∃ k, w' = (w.drewN n).drewN k) : Calls P f args (w.drewN n) fun e w'' => e = .returned v ∧ ∃ m, w'' = w.drewN m :=
  h.mono fun _ _ ⟨he, k, hk⟩ => ⟨he, n + k, by rw [hk]; simp [World.drewN, Nat.add_assoc]⟩
theorem byte_low : ∀ y : Fin 256, ∀ v : Fin 8, Lib.onesCount (y.val % 2 ^ v.val) = (List.range v.val).foldl (fun a j => a + (if y.val.testBit j = true then 1 else 0)) 0 := by decide +kernel
theorem cnt_low (d : List UInt8) (q : Nat) (v : Nat) (hv : v < 8) : cntB d (8 * q + v) = cntB d (8 * q) + Lib.onesCount ((d.getD q 0).toNat % 2 ^ v) := by
  have h := byte_low ⟨(d.getD q 0).toNat, UInt8.toNat_lt _⟩ ⟨v, hv⟩
  simp only at h
  rw [h]
  have e : ∀ j, j < 8 → btB d (8 * q + j) = (d.getD q 0).toNat.testBit j := fun j hj => bt_at d q j hj
  have key : ∀ k, k ≤ 8 → cntB d (8 * q + k) = cntB d (8 * q) + (List.range k).foldl (fun a j => a + (if (d.getD q 0).toNat.testBit j = true then 1 else 0)) 0 := by
    intro k
    induction k with
    | zero => intro _; rfl
    | succ k ih =>
      intro hk
      rw [← Nat.add_assoc]
      simp only [cntB]
      rw [ih (by omega), e k (by omega), List.range_succ, List.foldl_append]
      simp only [List.foldl_cons, List.foldl_nil]
      omega
  exact key v (by omega)
theorem pow7 {v : Nat} (h : v < 8) : 2 ^ v ≤ 128 := by
  have : ∀ v : Fin 8, 2 ^ v.val ≤ 128 := by decide
  exact this ⟨v, h⟩
theorem mask_and : ∀ y : Fin 256, ∀ v : Fin 8, bits .and .u8 (y.val : Int) (2 ^ v.val - 1) = ((y.val % 2 ^ v.val : Nat) : Int) := by decide +kernel
end Go.Tk
namespace Go.Proofs.YtpphjiialgmidaaDoor
open Go.RowKit Go.Tk
structure VecAt (w : World) (gv : Nat) (a : Option Addr) (c : Nat) (bs : List UInt8) (n m : Nat) : Prop where
  row : w.heap[gv]? = some (.cells #[.slice a bs.length c, .int .i64 (n : Nat), .int .i64 (m : Nat), .int .i64 8, .int .i64 (oG n : Nat), .int .i64 (oS n : Nat), .int .i64 (oM n : Nat), .int .i64 (oE n m : Nat)] 42 (0, 0))
  sl : SlI .u8 w a bs.length c (nums bs)
  fit : bs.length = oE n m
  mn : m ≤ n
  nN : n ≤ 67108864
theorem VecAt.drewN {w gv a c bs n m} (h : VecAt w gv a c bs n m) (k : Nat) : VecAt (w.drewN k) gv a c bs n m := ⟨h.row, h.sl.drewN k, h.fit, h.mn, h.nN⟩
theorem VecAt.k0 {w gv a c bs n m} (h : VecAt w gv a c bs n m) : w.cell? ⟨gv, 0, none⟩ = some (.slice a bs.length c) := cell_of_row w gv 0 _ _ _ h.row
theorem VecAt.k1 {w gv a c bs n m} (h : VecAt w gv a c bs n m) : w.cell? ⟨gv, 1, none⟩ = some (.int .i64 (n : Nat)) := cell_of_row w gv 1 _ _ _ h.row
theorem VecAt.k2 {w gv a c bs n m} (h : VecAt w gv a c bs n m) : w.cell? ⟨gv, 2, none⟩ = some (.int .i64 (m : Nat)) := cell_of_row w gv 2 _ _ _ h.row
theorem VecAt.k3 {w gv a c bs n m} (h : VecAt w gv a c bs n m) : w.cell? ⟨gv, 3, none⟩ = some (.int .i64 8) := cell_of_row w gv 3 _ _ _ h.row
theorem VecAt.k4 {w gv a c bs n m} (h : VecAt w gv a c bs n m) : w.cell? ⟨gv, 4, none⟩ = some (.int .i64 (oG n : Nat)) := cell_of_row w gv 4 _ _ _ h.row
theorem VecAt.k5 {w gv a c bs n m} (h : VecAt w gv a c bs n m) : w.cell? ⟨gv, 5, none⟩ = some (.int .i64 (oS n : Nat)) := cell_of_row w gv 5 _ _ _ h.row
theorem cell_bytes {w : World} {b o n c : Nat} {l : List UInt8} (h : SlI .u8 w (some ⟨b, o, none⟩) n c (nums l)) (i : Nat) (hi : i < n) : w.cell? ⟨b, o + i, none⟩ = some (.int .u8 ((l.getD i 0).toNat : Nat)) := by
  obtain ⟨b', o', e, hc⟩ := byte_cell h i hi
  obtain ⟨rfl, rfl⟩ : b = b' ∧ o = o' := by simpa using e
  exact hc
end Go.Proofs.YtpphjiialgmidaaDoor
