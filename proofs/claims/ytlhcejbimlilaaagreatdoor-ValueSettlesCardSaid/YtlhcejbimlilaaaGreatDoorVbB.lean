/- VbA VbB, laid as one. -/
import Derived.Test.YtlhcejbimlilaaaGreatDoorVaZ
import Derived.Test.YtlhcejbimlilaaaGreatDoorVaJ
import Derived.Test.YtlhcejbimlilaaaGreatDoorVaH
set_option linter.unusedVariables false
set_option linter.unusedSimpArgs false
/- The kinds of datatypes: plain; the program's ends (written by gen_vb1.py). -/
namespace Go.Tk
open Go Go.RowKit
def xsd : List UInt8 := [104, 116, 116, 112, 58, 47, 47, 119, 119, 119, 46, 119, 51, 46, 111, 114, 103, 47, 50, 48, 48, 49, 47, 88, 77, 76, 83, 99, 104, 101, 109, 97, 35]
/-- The ends of the kins of integer. -/
def endsP (l : List UInt8) : Option (List UInt8 × List UInt8) :=
  if l = [105, 110, 116, 101, 103, 101, 114] then some ([], [])
  else if l = [110, 111, 110, 80, 111, 115, 105, 116, 105, 118, 101, 73, 110, 116, 101, 103, 101, 114] then some ([], [48])
  else if l = [110, 101, 103, 97, 116, 105, 118, 101, 73, 110, 116, 101, 103, 101, 114] then some ([], [45, 49])
  else if l = [110, 111, 110, 78, 101, 103, 97, 116, 105, 118, 101, 73, 110, 116, 101, 103, 101, 114] then some ([48], [])
  else if l = [112, 111, 115, 105, 116, 105, 118, 101, 73, 110, 116, 101, 103, 101, 114] then some ([49], [])
  else if l = [108, 111, 110, 103] then some ([45, 57, 50, 50, 51, 51, 55, 50, 48, 51, 54, 56, 53, 52, 55, 55, 53, 56, 48, 56], [57, 50, 50, 51, 51, 55, 50, 48, 51, 54, 56, 53, 52, 55, 55, 53, 56, 48, 55])
  else if l = [105, 110, 116] then some ([45, 50, 49, 52, 55, 52, 56, 51, 54, 52, 56], [50, 49, 52, 55, 52, 56, 51, 54, 52, 55])
  else if l = [115, 104, 111, 114, 116] then some ([45, 51, 50, 55, 54, 56], [51, 50, 55, 54, 55])
  else if l = [98, 121, 116, 101] then some ([45, 49, 50, 56], [49, 50, 55])
  else if l = [117, 110, 115, 105, 103, 110, 101, 100, 76, 111, 110, 103] then some ([48], [49, 56, 52, 52, 54, 55, 52, 52, 48, 55, 51, 55, 48, 57, 53, 53, 49, 54, 49, 53])
  else if l = [117, 110, 115, 105, 103, 110, 101, 100, 73, 110, 116] then some ([48], [52, 50, 57, 52, 57, 54, 55, 50, 57, 53])
  else if l = [117, 110, 115, 105, 103, 110, 101, 100, 83, 104, 111, 114, 116] then some ([48], [54, 53, 53, 51, 53])
  else if l = [117, 110, 115, 105, 103, 110, 101, 100, 66, 121, 116, 101] then some ([48], [50, 53, 53])
  else none
inductive Kd where
  | str | boo | dec | dbl | dtm | dat | tim | hex | b64
  | int (lo hi : List UInt8)
def kdL (l : List UInt8) : Option Kd :=
  if l = [115, 116, 114, 105, 110, 103] then some .str
  else if l = [98, 111, 111, 108, 101, 97, 110] then some .boo
  else if l = [100, 101, 99, 105, 109, 97, 108] then some .dec
  else if l = [100, 111, 117, 98, 108, 101] then some .dbl
  else if l = [102, 108, 111, 97, 116] then some .dbl
  else if l = [100, 97, 116, 101, 84, 105, 109, 101] then some .dtm
  else if l = [100, 97, 116, 101] then some .dat
  else if l = [116, 105, 109, 101] then some .tim
  else if l = [104, 101, 120, 66, 105, 110, 97, 114, 121] then some .hex
  else if l = [98, 97, 115, 101, 54, 52, 66, 105, 110, 97, 114, 121] then some .b64
  else (endsP l).map fun x => .int x.1 x.2
def kdOf (typ : List UInt8) : Option Kd := if Lib.hasPrefix typ xsd = true then kdL (typ.drop 33) else none
def endV (o : Option (List UInt8 × List UInt8)) : Value := match o with
  | none => .tuple #[.string ⟨#[48]⟩, .string ⟨#[]⟩, .bool false]
  | some x => .tuple #[.string ⟨x.1.toArray⟩, .string ⟨x.2.toArray⟩, .bool true]
theorem st_ne {s : ByteArray} {l : List UInt8} (h : s.data.toList ≠ l) : (s.toList == l) = false := by rw [Lib.toList_data]; exact beq_false_of_ne h
theorem endsP_none {l : List UInt8} (h0 : l ≠ [105, 110, 116, 101, 103, 101, 114]) (h1 : l ≠ [110, 111, 110, 80, 111, 115, 105, 116, 105, 118, 101, 73, 110, 116, 101, 103, 101, 114]) (h2 : l ≠ [110, 101, 103, 97, 116, 105, 118, 101, 73, 110, 116, 101, 103, 101, 114]) (h3 : l ≠ [110, 111, 110, 78, 101, 103, 97, 116, 105, 118, 101, 73, 110, 116, 101, 103, 101, 114]) (h4 : l ≠ [112, 111, 115, 105, 116, 105, 118, 101, 73, 110, 116, 101, 103, 101, 114]) (h5 : l ≠ [108, 111, 110, 103]) (h6 : l ≠ [105, 110, 116]) (h7 : l ≠ [115, 104, 111, 114, 116]) (h8 : l ≠ [98, 121, 116, 101]) (h9 : l ≠ [117, 110, 115, 105, 103, 110, 101, 100, 76, 111, 110, 103]) (h10 : l ≠ [117, 110, 115, 105, 103, 110, 101, 100, 73, 110, 116]) (h11 : l ≠ [117, 110, 115, 105, 103, 110, 101, 100, 83, 104, 111, 114, 116]) (h12 : l ≠ [117, 110, 115, 105, 103, 110, 101, 100, 66, 121, 116, 101]) : endsP l = none := by
  unfold endsP
  rw [if_neg h0, if_neg h1, if_neg h2, if_neg h3, if_neg h4, if_neg h5, if_neg h6, if_neg h7, if_neg h8, if_neg h9, if_neg h10, if_neg h11, if_neg h12]
end Go.Tk
namespace Go.Proofs.YtlhcejbimlilaaaGreatDoor
open Go.RowKit Go.Tk
set_option maxHeartbeats 1000000 in
theorem ends_calls (s : ByteArray) (w : World) : Calls Tryz.prog 65 #[.string s] w fun e w' => e = .returned (endV (endsP s.data.toList)) ∧ w = w' := by
  by_cases h0 : s.data.toList = [105, 110, 116, 101, 103, 101, 114]
  · obtain rfl : s = ⟨#[105, 110, 116, 101, 103, 101, 114]⟩ := by rw [← str_mk s, h0]
    show Calls _ _ _ _ fun e w' => e = .returned (.tuple #[.string ⟨#[]⟩, .string ⟨#[]⟩, .bool true]) ∧ _
    clear h0
    go_enter Tryz.func65, Tryz.ntmps65
    go_wp2_with fail
    refine bodyPost_ret (v := .tuple #[.string ⟨#[]⟩, .string ⟨#[]⟩, .bool true]) (by simp [results, Tryz.results65, go_sem]) rfl ⟨rfl, rfl⟩
  by_cases h1 : s.data.toList = [110, 111, 110, 80, 111, 115, 105, 116, 105, 118, 101, 73, 110, 116, 101, 103, 101, 114]
  · obtain rfl : s = ⟨#[110, 111, 110, 80, 111, 115, 105, 116, 105, 118, 101, 73, 110, 116, 101, 103, 101, 114]⟩ := by rw [← str_mk s, h1]
    show Calls _ _ _ _ fun e w' => e = .returned (.tuple #[.string ⟨#[]⟩, .string ⟨#[48]⟩, .bool true]) ∧ _
    clear h0 h1
    go_enter Tryz.func65, Tryz.ntmps65
    go_wp2_with fail
    refine bodyPost_ret (v := .tuple #[.string ⟨#[]⟩, .string ⟨#[48]⟩, .bool true]) (by simp [results, Tryz.results65, go_sem]) rfl ⟨rfl, rfl⟩
  by_cases h2 : s.data.toList = [110, 101, 103, 97, 116, 105, 118, 101, 73, 110, 116, 101, 103, 101, 114]
  · obtain rfl : s = ⟨#[110, 101, 103, 97, 116, 105, 118, 101, 73, 110, 116, 101, 103, 101, 114]⟩ := by rw [← str_mk s, h2]
    show Calls _ _ _ _ fun e w' => e = .returned (.tuple #[.string ⟨#[]⟩, .string ⟨#[45, 49]⟩, .bool true]) ∧ _
    clear h0 h1 h2
    go_enter Tryz.func65, Tryz.ntmps65
    go_wp2_with fail
    refine bodyPost_ret (v := .tuple #[.string ⟨#[]⟩, .string ⟨#[45, 49]⟩, .bool true]) (by simp [results, Tryz.results65, go_sem]) rfl ⟨rfl, rfl⟩
  by_cases h3 : s.data.toList = [110, 111, 110, 78, 101, 103, 97, 116, 105, 118, 101, 73, 110, 116, 101, 103, 101, 114]
  · obtain rfl : s = ⟨#[110, 111, 110, 78, 101, 103, 97, 116, 105, 118, 101, 73, 110, 116, 101, 103, 101, 114]⟩ := by rw [← str_mk s, h3]
    show Calls _ _ _ _ fun e w' => e = .returned (.tuple #[.string ⟨#[48]⟩, .string ⟨#[]⟩, .bool true]) ∧ _
    clear h0 h1 h2 h3
    go_enter Tryz.func65, Tryz.ntmps65
    go_wp2_with fail
    refine bodyPost_ret (v := .tuple #[.string ⟨#[48]⟩, .string ⟨#[]⟩, .bool true]) (by simp [results, Tryz.results65, go_sem]) rfl ⟨rfl, rfl⟩
  by_cases h4 : s.data.toList = [112, 111, 115, 105, 116, 105, 118, 101, 73, 110, 116, 101, 103, 101, 114]
  · obtain rfl : s = ⟨#[112, 111, 115, 105, 116, 105, 118, 101, 73, 110, 116, 101, 103, 101, 114]⟩ := by rw [← str_mk s, h4]
    show Calls _ _ _ _ fun e w' => e = .returned (.tuple #[.string ⟨#[49]⟩, .string ⟨#[]⟩, .bool true]) ∧ _
    clear h0 h1 h2 h3 h4
    go_enter Tryz.func65, Tryz.ntmps65
    go_wp2_with fail
    refine bodyPost_ret (v := .tuple #[.string ⟨#[49]⟩, .string ⟨#[]⟩, .bool true]) (by simp [results, Tryz.results65, go_sem]) rfl ⟨rfl, rfl⟩
  by_cases h5 : s.data.toList = [108, 111, 110, 103]
  · obtain rfl : s = ⟨#[108, 111, 110, 103]⟩ := by rw [← str_mk s, h5]
    show Calls _ _ _ _ fun e w' => e = .returned (.tuple #[.string ⟨#[45, 57, 50, 50, 51, 51, 55, 50, 48, 51, 54, 56, 53, 52, 55, 55, 53, 56, 48, 56]⟩, .string ⟨#[57, 50, 50, 51, 51, 55, 50, 48, 51, 54, 56, 53, 52, 55, 55, 53, 56, 48, 55]⟩, .bool true]) ∧ _
    clear h0 h1 h2 h3 h4 h5
    go_enter Tryz.func65, Tryz.ntmps65
    go_wp2_with fail
    refine bodyPost_ret (v := .tuple #[.string ⟨#[45, 57, 50, 50, 51, 51, 55, 50, 48, 51, 54, 56, 53, 52, 55, 55, 53, 56, 48, 56]⟩, .string ⟨#[57, 50, 50, 51, 51, 55, 50, 48, 51, 54, 56, 53, 52, 55, 55, 53, 56, 48, 55]⟩, .bool true]) (by simp [results, Tryz.results65, go_sem]) rfl ⟨rfl, rfl⟩
  by_cases h6 : s.data.toList = [105, 110, 116]
  · obtain rfl : s = ⟨#[105, 110, 116]⟩ := by rw [← str_mk s, h6]
    show Calls _ _ _ _ fun e w' => e = .returned (.tuple #[.string ⟨#[45, 50, 49, 52, 55, 52, 56, 51, 54, 52, 56]⟩, .string ⟨#[50, 49, 52, 55, 52, 56, 51, 54, 52, 55]⟩, .bool true]) ∧ _
    clear h0 h1 h2 h3 h4 h5 h6
    go_enter Tryz.func65, Tryz.ntmps65
    go_wp2_with fail
    refine bodyPost_ret (v := .tuple #[.string ⟨#[45, 50, 49, 52, 55, 52, 56, 51, 54, 52, 56]⟩, .string ⟨#[50, 49, 52, 55, 52, 56, 51, 54, 52, 55]⟩, .bool true]) (by simp [results, Tryz.results65, go_sem]) rfl ⟨rfl, rfl⟩
  by_cases h7 : s.data.toList = [115, 104, 111, 114, 116]
  · obtain rfl : s = ⟨#[115, 104, 111, 114, 116]⟩ := by rw [← str_mk s, h7]
    show Calls _ _ _ _ fun e w' => e = .returned (.tuple #[.string ⟨#[45, 51, 50, 55, 54, 56]⟩, .string ⟨#[51, 50, 55, 54, 55]⟩, .bool true]) ∧ _
    clear h0 h1 h2 h3 h4 h5 h6 h7
    go_enter Tryz.func65, Tryz.ntmps65
    go_wp2_with fail
    refine bodyPost_ret (v := .tuple #[.string ⟨#[45, 51, 50, 55, 54, 56]⟩, .string ⟨#[51, 50, 55, 54, 55]⟩, .bool true]) (by simp [results, Tryz.results65, go_sem]) rfl ⟨rfl, rfl⟩
  by_cases h8 : s.data.toList = [98, 121, 116, 101]
  · obtain rfl : s = ⟨#[98, 121, 116, 101]⟩ := by rw [← str_mk s, h8]
    show Calls _ _ _ _ fun e w' => e = .returned (.tuple #[.string ⟨#[45, 49, 50, 56]⟩, .string ⟨#[49, 50, 55]⟩, .bool true]) ∧ _
    clear h0 h1 h2 h3 h4 h5 h6 h7 h8
    go_enter Tryz.func65, Tryz.ntmps65
    go_wp2_with fail
    refine bodyPost_ret (v := .tuple #[.string ⟨#[45, 49, 50, 56]⟩, .string ⟨#[49, 50, 55]⟩, .bool true]) (by simp [results, Tryz.results65, go_sem]) rfl ⟨rfl, rfl⟩
  by_cases h9 : s.data.toList = [117, 110, 115, 105, 103, 110, 101, 100, 76, 111, 110, 103]
  · obtain rfl : s = ⟨#[117, 110, 115, 105, 103, 110, 101, 100, 76, 111, 110, 103]⟩ := by rw [← str_mk s, h9]
    show Calls _ _ _ _ fun e w' => e = .returned (.tuple #[.string ⟨#[48]⟩, .string ⟨#[49, 56, 52, 52, 54, 55, 52, 52, 48, 55, 51, 55, 48, 57, 53, 53, 49, 54, 49, 53]⟩, .bool true]) ∧ _
    clear h0 h1 h2 h3 h4 h5 h6 h7 h8 h9
    go_enter Tryz.func65, Tryz.ntmps65
    go_wp2_with fail
    refine bodyPost_ret (v := .tuple #[.string ⟨#[48]⟩, .string ⟨#[49, 56, 52, 52, 54, 55, 52, 52, 48, 55, 51, 55, 48, 57, 53, 53, 49, 54, 49, 53]⟩, .bool true]) (by simp [results, Tryz.results65, go_sem]) rfl ⟨rfl, rfl⟩
  by_cases h10 : s.data.toList = [117, 110, 115, 105, 103, 110, 101, 100, 73, 110, 116]
  · obtain rfl : s = ⟨#[117, 110, 115, 105, 103, 110, 101, 100, 73, 110, 116]⟩ := by rw [← str_mk s, h10]
    show Calls _ _ _ _ fun e w' => e = .returned (.tuple #[.string ⟨#[48]⟩, .string ⟨#[52, 50, 57, 52, 57, 54, 55, 50, 57, 53]⟩, .bool true]) ∧ _
    clear h0 h1 h2 h3 h4 h5 h6 h7 h8 h9 h10
    go_enter Tryz.func65, Tryz.ntmps65
    go_wp2_with fail
    refine bodyPost_ret (v := .tuple #[.string ⟨#[48]⟩, .string ⟨#[52, 50, 57, 52, 57, 54, 55, 50, 57, 53]⟩, .bool true]) (by simp [results, Tryz.results65, go_sem]) rfl ⟨rfl, rfl⟩
  by_cases h11 : s.data.toList = [117, 110, 115, 105, 103, 110, 101, 100, 83, 104, 111, 114, 116]
  · obtain rfl : s = ⟨#[117, 110, 115, 105, 103, 110, 101, 100, 83, 104, 111, 114, 116]⟩ := by rw [← str_mk s, h11]
    show Calls _ _ _ _ fun e w' => e = .returned (.tuple #[.string ⟨#[48]⟩, .string ⟨#[54, 53, 53, 51, 53]⟩, .bool true]) ∧ _
    clear h0 h1 h2 h3 h4 h5 h6 h7 h8 h9 h10 h11
    go_enter Tryz.func65, Tryz.ntmps65
    go_wp2_with fail
    refine bodyPost_ret (v := .tuple #[.string ⟨#[48]⟩, .string ⟨#[54, 53, 53, 51, 53]⟩, .bool true]) (by simp [results, Tryz.results65, go_sem]) rfl ⟨rfl, rfl⟩
  by_cases h12 : s.data.toList = [117, 110, 115, 105, 103, 110, 101, 100, 66, 121, 116, 101]
  · obtain rfl : s = ⟨#[117, 110, 115, 105, 103, 110, 101, 100, 66, 121, 116, 101]⟩ := by rw [← str_mk s, h12]
    show Calls _ _ _ _ fun e w' => e = .returned (.tuple #[.string ⟨#[48]⟩, .string ⟨#[50, 53, 53]⟩, .bool true]) ∧ _
    clear h0 h1 h2 h3 h4 h5 h6 h7 h8 h9 h10 h11 h12
    go_enter Tryz.func65, Tryz.ntmps65
    go_wp2_with fail
    refine bodyPost_ret (v := .tuple #[.string ⟨#[48]⟩, .string ⟨#[50, 53, 53]⟩, .bool true]) (by simp [results, Tryz.results65, go_sem]) rfl ⟨rfl, rfl⟩
  rw [endsP_none h0 h1 h2 h3 h4 h5 h6 h7 h8 h9 h10 h11 h12]
  show Calls _ _ _ _ fun e w' => e = .returned (.tuple #[.string ⟨#[48]⟩, .string ⟨#[]⟩, .bool false]) ∧ _
  have e0 := st_ne h0
  have e1 := st_ne h1
  have e2 := st_ne h2
  have e3 := st_ne h3
  have e4 := st_ne h4
  have e5 := st_ne h5
  have e6 := st_ne h6
  have e7 := st_ne h7
  have e8 := st_ne h8
  have e9 := st_ne h9
  have e10 := st_ne h10
  have e11 := st_ne h11
  have e12 := st_ne h12
  clear h0 h1 h2 h3 h4 h5 h6 h7 h8 h9 h10 h11 h12
  go_enter Tryz.func65, Tryz.ntmps65
  go_wp2_with fail
  refine bodyPost_ret (v := .tuple #[.string ⟨#[48]⟩, .string ⟨#[]⟩, .bool false]) (by simp [results, Tryz.results65, go_sem]) rfl ⟨rfl, rfl⟩
end Go.Proofs.YtlhcejbimlilaaaGreatDoor
/- The program's within; the closures of find; find (written by gen_vb1.py). -/
namespace Go.Tk
open Go Go.RowKit
def inN (l : List UInt8) : Nm := (intP l).getD nmZ
def witP (s lo hi : List UInt8) : Bool := match intP s with
  | none => false
  | some n => (decide (lo = []) || decide (0 ≤ (agN n (inN lo)).1)) && (decide (hi = []) || decide ((agN n (inN hi)).1 ≤ 0))
theorem Res1.alloc {T : TypeId} {z : Array Value} {w x : World} (h : Res1 T z w x) (o : Obj) : Res1 T z w (x.alloc o) := h.next ((Below.refl _ _).alloc (Nat.le_refl _) _)
end Go.Tk
namespace Go.Proofs.YtlhcejbimlilaaaGreatDoor
open Go.RowKit Go.Tk
theorem inN_inf (l : List UInt8) : -1 ≤ (inN l).inf ∧ (inN l).inf ≤ 1 := by
  unfold inN
  cases h : intP l with
  | none => simp [nmZ]
  | some n => have := intP_bd h; simp only [Option.getD_some]; omega
set_option maxHeartbeats 4000000 in
theorem within_calls (s lo hi : ByteArray) (w : World) (hs : s.size ≤ 65536) (hl : lo.size ≤ 100) (hh : hi.size ≤ 100) :
    Calls Tryz.prog 67 #[.string s, .string lo, .string hi] w fun e w' => e = .returned (.bool (witP s.data.toList lo.data.toList hi.data.toList)) ∧ Below w.heap.size w w' := by
  have h1 := fun w => integer_calls s w (by omega)
  have h2 := fun w => integer_calls lo w (by omega)
  have h3 := fun w => integer_calls hi w (by omega)
  have hw : witP s.data.toList lo.data.toList hi.data.toList = match intP s.data.toList with
    | none => false
    | some n => (decide (lo.data.toList = []) || decide (0 ≤ (agN n (inN lo.data.toList)).1)) && (decide (hi.data.toList = []) || decide ((agN n (inN hi.data.toList)).1 ≤ 0)) := rfl
  rw [hw]
  clear hw
  cases ho : intP s.data.toList with
  | none =>
    rw [ho] at h1
    have h1 : ∀ w, Calls Tryz.prog 105 #[.string s] w fun e w' => e = .returned (.tuple #[.agg #[.bool false, .string ⟨#[]⟩, .int .i64 0, .int .i64 0, .bool false], .bool false]) ∧ Below w.heap.size w w' := h1
    have HS := Lib.hid h1
    clear h1 h2 h3 ho
    dsimp only
    go_enter Tryz.func67, Tryz.ntmps67
    go_wp2_with (first | (go_at_call 105; (with_reducible refine (HS.out _).mono ?_); rintro e w1 ⟨rfl, hb1⟩))
    go_ret
    exact ⟨rfl, hb1.trans ((Below.refl _ _).alloc hb1.size _)⟩
  | some n =>
  rw [ho] at h1
  have h1 : ∀ w, Calls Tryz.prog 105 #[.string s] w fun e w' => e = .returned (.tuple #[n.val, .bool true]) ∧ Below w.heap.size w w' := h1
  have hni := (intP_bd ho).2.1
  have hal := fun w => against_calls n (inN lo.data.toList) w (by omega) (inN_inf _)
  have hah := fun w => against_calls n (inN hi.data.toList) w (by omega) (inN_inf _)
  dsimp only
  have h2 : ∀ w, Calls Tryz.prog 105 #[.string lo] w fun e w' => e = .returned (.tuple #[(inN lo.data.toList).val, .bool (intP lo.data.toList).isSome]) ∧ Below w.heap.size w w' := h2
  have h3 : ∀ w, Calls Tryz.prog 105 #[.string hi] w fun e w' => e = .returned (.tuple #[(inN hi.data.toList).val, .bool (intP hi.data.toList).isSome]) ∧ Below w.heap.size w w' := h3
  obtain ⟨c1, hc1⟩ : ∃ c, c = (agN n (inN lo.data.toList)).1 := ⟨_, rfl⟩
  obtain ⟨k1, hk1⟩ : ∃ c, c = (agN n (inN lo.data.toList)).2 := ⟨_, rfl⟩
  obtain ⟨c2, hc2⟩ : ∃ c, c = (agN n (inN hi.data.toList)).1 := ⟨_, rfl⟩
  obtain ⟨k2, hk2⟩ : ∃ c, c = (agN n (inN hi.data.toList)).2 := ⟨_, rfl⟩
  rw [← hc1, ← hk1] at hal
  rw [← hc2, ← hk2] at hah
  rw [← hc1, ← hc2]
  clear hc1 hk1 hc2 hk2 ho hni
  have el : (lo.toList == []) = decide (lo.data.toList = []) := by rw [Lib.toList_data]; cases lo.data.toList <;> simp
  have eh : (hi.toList == []) = decide (hi.data.toList = []) := by rw [Lib.toList_data]; cases hi.data.toList <;> simp
  obtain ⟨dl, hdl⟩ : ∃ d, d = decide (lo.data.toList = []) := ⟨_, rfl⟩
  obtain ⟨dh, hdh⟩ : ∃ d, d = decide (hi.data.toList = []) := ⟨_, rfl⟩
  rw [← hdl] at el ⊢
  rw [← hdh] at eh ⊢
  obtain ⟨il, hil⟩ : ∃ d, d = (intP lo.data.toList).isSome := ⟨_, rfl⟩
  obtain ⟨ih, hih⟩ : ∃ d, d = (intP hi.data.toList).isSome := ⟨_, rfl⟩
  rw [← hil] at h2
  rw [← hih] at h3
  obtain ⟨⟨lb, ld, lp, li, ln⟩, hL⟩ : ∃ l, l = inN lo.data.toList := ⟨_, rfl⟩
  obtain ⟨⟨hb, hd, hp, hi', hn⟩, hH⟩ : ∃ l, l = inN hi.data.toList := ⟨_, rfl⟩
  rw [← hL] at h2 hal
  rw [← hH] at h3 hah
  obtain ⟨nb, nd, np, ni, nn⟩ := n
  unfold Nm.val at h1 h2 h3 hal hah
  dsimp only at h1 h2 h3 hal hah
  have HS := Lib.hid h1
  have HL := Lib.hid h2
  have HH := Lib.hid h3
  have HAL := Lib.hid hal
  have HAH := Lib.hid hah
  clear h1 h2 h3 hal hah hL hH hdl hdh hil hih
  cases dl with
  | true =>
    cases dh with
    | true =>
      show Calls _ _ _ _ fun e w' => e = .returned (.bool true) ∧ _
      go_enter Tryz.func67, Tryz.ntmps67
      go_wp2_with (first | (go_at_call 105; (with_reducible refine (HS.out _).mono ?_); rintro e w1 ⟨rfl, hb1⟩))
      go_ret
      exact ⟨rfl, hb1.trans ((Below.refl _ _).alloc hb1.size _)⟩
    | false =>
      by_cases g2 : 0 < c2
      · rw [decide_eq_false (show ¬ c2 ≤ 0 by omega)]
        show Calls _ _ _ _ fun e w' => e = .returned (.bool false) ∧ _
        go_enter Tryz.func67, Tryz.ntmps67
        go_wp2_with (first | (go_at_call 105; (with_reducible refine (HS.out _).mono ?_); rintro e w1 ⟨rfl, hb1⟩) | (go_at_call 105; (with_reducible refine (HH.out _).mono ?_); rintro e w5 ⟨rfl, hb5⟩; (have R5 := (Res1.start 55 #[.bool nb, .string ⟨nd.toArray⟩, .int .i64 np, .int .i64 ni, .bool nn] w1).next hb5); (have l5 := R5.lt); (have c50 : w5.cell? ⟨w1.heap.size, 0, none⟩ = some (.bool nb) := R5.cell 0); (have c51 : w5.cell? ⟨w1.heap.size, 1, none⟩ = some (.string ⟨nd.toArray⟩) := R5.cell 1); (have c52 : w5.cell? ⟨w1.heap.size, 2, none⟩ = some (.int .i64 np) := R5.cell 2); (have c53 : w5.cell? ⟨w1.heap.size, 3, none⟩ = some (.int .i64 ni) := R5.cell 3); (have c54 : w5.cell? ⟨w1.heap.size, 4, none⟩ = some (.bool nn) := R5.cell 4)) | (go_at_call 30; (with_reducible refine (HAH.out _).mono ?_); rintro e w6 ⟨rfl, hb6⟩; (have R6 := (R5.alloc _).next hb6); (have l6 := R6.lt); (have c60 : w6.cell? ⟨w1.heap.size, 0, none⟩ = some (.bool nb) := R6.cell 0); (have c61 : w6.cell? ⟨w1.heap.size, 1, none⟩ = some (.string ⟨nd.toArray⟩) := R6.cell 1); (have c62 : w6.cell? ⟨w1.heap.size, 2, none⟩ = some (.int .i64 np) := R6.cell 2); (have c63 : w6.cell? ⟨w1.heap.size, 3, none⟩ = some (.int .i64 ni) := R6.cell 3); (have c64 : w6.cell? ⟨w1.heap.size, 4, none⟩ = some (.bool nn) := R6.cell 4)))
        go_ret
        exact ⟨rfl, hb1.trans (R6.below.mono hb1.size)⟩
      · rw [decide_eq_true (show c2 ≤ 0 by omega)]
        show Calls _ _ _ _ fun e w' => e = .returned (.bool true) ∧ _
        have g2' : c2 ≤ 0 := by omega
        clear g2
        go_enter Tryz.func67, Tryz.ntmps67
        go_wp2_with (first | (go_at_call 105; (with_reducible refine (HS.out _).mono ?_); rintro e w1 ⟨rfl, hb1⟩) | (go_at_call 105; (with_reducible refine (HH.out _).mono ?_); rintro e w5 ⟨rfl, hb5⟩; (have R5 := (Res1.start 55 #[.bool nb, .string ⟨nd.toArray⟩, .int .i64 np, .int .i64 ni, .bool nn] w1).next hb5); (have l5 := R5.lt); (have c50 : w5.cell? ⟨w1.heap.size, 0, none⟩ = some (.bool nb) := R5.cell 0); (have c51 : w5.cell? ⟨w1.heap.size, 1, none⟩ = some (.string ⟨nd.toArray⟩) := R5.cell 1); (have c52 : w5.cell? ⟨w1.heap.size, 2, none⟩ = some (.int .i64 np) := R5.cell 2); (have c53 : w5.cell? ⟨w1.heap.size, 3, none⟩ = some (.int .i64 ni) := R5.cell 3); (have c54 : w5.cell? ⟨w1.heap.size, 4, none⟩ = some (.bool nn) := R5.cell 4)) | (go_at_call 30; (with_reducible refine (HAH.out _).mono ?_); rintro e w6 ⟨rfl, hb6⟩; (have R6 := (R5.alloc _).next hb6); (have l6 := R6.lt); (have c60 : w6.cell? ⟨w1.heap.size, 0, none⟩ = some (.bool nb) := R6.cell 0); (have c61 : w6.cell? ⟨w1.heap.size, 1, none⟩ = some (.string ⟨nd.toArray⟩) := R6.cell 1); (have c62 : w6.cell? ⟨w1.heap.size, 2, none⟩ = some (.int .i64 np) := R6.cell 2); (have c63 : w6.cell? ⟨w1.heap.size, 3, none⟩ = some (.int .i64 ni) := R6.cell 3); (have c64 : w6.cell? ⟨w1.heap.size, 4, none⟩ = some (.bool nn) := R6.cell 4)))
        go_ret
        exact ⟨rfl, hb1.trans (R6.below.mono hb1.size)⟩
  | false =>
    by_cases g1 : c1 < 0
    · rw [decide_eq_false (show ¬ 0 ≤ c1 by omega)]
      show Calls _ _ _ _ fun e w' => e = .returned (.bool false) ∧ _
      go_enter Tryz.func67, Tryz.ntmps67
      go_wp2_with (first | (go_at_call 105; (with_reducible refine (HS.out _).mono ?_); rintro e w1 ⟨rfl, hb1⟩) | (go_at_call 105; (with_reducible refine (HL.out _).mono ?_); rintro e w3 ⟨rfl, hb3⟩; (have R3 := (Res1.start 55 #[.bool nb, .string ⟨nd.toArray⟩, .int .i64 np, .int .i64 ni, .bool nn] w1).next hb3); (have l3 := R3.lt); (have c30 : w3.cell? ⟨w1.heap.size, 0, none⟩ = some (.bool nb) := R3.cell 0); (have c31 : w3.cell? ⟨w1.heap.size, 1, none⟩ = some (.string ⟨nd.toArray⟩) := R3.cell 1); (have c32 : w3.cell? ⟨w1.heap.size, 2, none⟩ = some (.int .i64 np) := R3.cell 2); (have c33 : w3.cell? ⟨w1.heap.size, 3, none⟩ = some (.int .i64 ni) := R3.cell 3); (have c34 : w3.cell? ⟨w1.heap.size, 4, none⟩ = some (.bool nn) := R3.cell 4)) | (go_at_call 30; (with_reducible refine (HAL.out _).mono ?_); rintro e w4 ⟨rfl, hb4⟩; (have R4 := (R3.alloc _).next hb4); (have l4 := R4.lt); (have c40 : w4.cell? ⟨w1.heap.size, 0, none⟩ = some (.bool nb) := R4.cell 0); (have c41 : w4.cell? ⟨w1.heap.size, 1, none⟩ = some (.string ⟨nd.toArray⟩) := R4.cell 1); (have c42 : w4.cell? ⟨w1.heap.size, 2, none⟩ = some (.int .i64 np) := R4.cell 2); (have c43 : w4.cell? ⟨w1.heap.size, 3, none⟩ = some (.int .i64 ni) := R4.cell 3); (have c44 : w4.cell? ⟨w1.heap.size, 4, none⟩ = some (.bool nn) := R4.cell 4)))
      go_ret
      exact ⟨rfl, hb1.trans (R4.below.mono hb1.size)⟩
    · rw [decide_eq_true (show 0 ≤ c1 by omega)]
      have g1' : 0 ≤ c1 := by omega
      clear g1
      cases dh with
      | true =>
        show Calls _ _ _ _ fun e w' => e = .returned (.bool true) ∧ _
        go_enter Tryz.func67, Tryz.ntmps67
        go_wp2_with (first | (go_at_call 105; (with_reducible refine (HS.out _).mono ?_); rintro e w1 ⟨rfl, hb1⟩) | (go_at_call 105; (with_reducible refine (HL.out _).mono ?_); rintro e w3 ⟨rfl, hb3⟩; (have R3 := (Res1.start 55 #[.bool nb, .string ⟨nd.toArray⟩, .int .i64 np, .int .i64 ni, .bool nn] w1).next hb3); (have l3 := R3.lt); (have c30 : w3.cell? ⟨w1.heap.size, 0, none⟩ = some (.bool nb) := R3.cell 0); (have c31 : w3.cell? ⟨w1.heap.size, 1, none⟩ = some (.string ⟨nd.toArray⟩) := R3.cell 1); (have c32 : w3.cell? ⟨w1.heap.size, 2, none⟩ = some (.int .i64 np) := R3.cell 2); (have c33 : w3.cell? ⟨w1.heap.size, 3, none⟩ = some (.int .i64 ni) := R3.cell 3); (have c34 : w3.cell? ⟨w1.heap.size, 4, none⟩ = some (.bool nn) := R3.cell 4)) | (go_at_call 30; (with_reducible refine (HAL.out _).mono ?_); rintro e w4 ⟨rfl, hb4⟩; (have R4 := (R3.alloc _).next hb4); (have l4 := R4.lt); (have c40 : w4.cell? ⟨w1.heap.size, 0, none⟩ = some (.bool nb) := R4.cell 0); (have c41 : w4.cell? ⟨w1.heap.size, 1, none⟩ = some (.string ⟨nd.toArray⟩) := R4.cell 1); (have c42 : w4.cell? ⟨w1.heap.size, 2, none⟩ = some (.int .i64 np) := R4.cell 2); (have c43 : w4.cell? ⟨w1.heap.size, 3, none⟩ = some (.int .i64 ni) := R4.cell 3); (have c44 : w4.cell? ⟨w1.heap.size, 4, none⟩ = some (.bool nn) := R4.cell 4)))
        go_ret
        exact ⟨rfl, hb1.trans (R4.below.mono hb1.size)⟩
      | false =>
        by_cases g2 : 0 < c2
        · rw [decide_eq_false (show ¬ c2 ≤ 0 by omega)]
          show Calls _ _ _ _ fun e w' => e = .returned (.bool false) ∧ _
          go_enter Tryz.func67, Tryz.ntmps67
          go_wp2_with (first | (go_at_call 105; (with_reducible refine (HS.out _).mono ?_); rintro e w1 ⟨rfl, hb1⟩) | (go_at_call 105; (with_reducible refine (HL.out _).mono ?_); rintro e w3 ⟨rfl, hb3⟩; (have R3 := (Res1.start 55 #[.bool nb, .string ⟨nd.toArray⟩, .int .i64 np, .int .i64 ni, .bool nn] w1).next hb3); (have l3 := R3.lt); (have c30 : w3.cell? ⟨w1.heap.size, 0, none⟩ = some (.bool nb) := R3.cell 0); (have c31 : w3.cell? ⟨w1.heap.size, 1, none⟩ = some (.string ⟨nd.toArray⟩) := R3.cell 1); (have c32 : w3.cell? ⟨w1.heap.size, 2, none⟩ = some (.int .i64 np) := R3.cell 2); (have c33 : w3.cell? ⟨w1.heap.size, 3, none⟩ = some (.int .i64 ni) := R3.cell 3); (have c34 : w3.cell? ⟨w1.heap.size, 4, none⟩ = some (.bool nn) := R3.cell 4)) | (go_at_call 30; (with_reducible refine (HAL.out _).mono ?_); rintro e w4 ⟨rfl, hb4⟩; (have R4 := (R3.alloc _).next hb4); (have l4 := R4.lt); (have c40 : w4.cell? ⟨w1.heap.size, 0, none⟩ = some (.bool nb) := R4.cell 0); (have c41 : w4.cell? ⟨w1.heap.size, 1, none⟩ = some (.string ⟨nd.toArray⟩) := R4.cell 1); (have c42 : w4.cell? ⟨w1.heap.size, 2, none⟩ = some (.int .i64 np) := R4.cell 2); (have c43 : w4.cell? ⟨w1.heap.size, 3, none⟩ = some (.int .i64 ni) := R4.cell 3); (have c44 : w4.cell? ⟨w1.heap.size, 4, none⟩ = some (.bool nn) := R4.cell 4)) | (go_at_call 105; (with_reducible refine (HH.out _).mono ?_); rintro e w5 ⟨rfl, hb5⟩; (have R5 := (R4).next hb5); (have l5 := R5.lt); (have c50 : w5.cell? ⟨w1.heap.size, 0, none⟩ = some (.bool nb) := R5.cell 0); (have c51 : w5.cell? ⟨w1.heap.size, 1, none⟩ = some (.string ⟨nd.toArray⟩) := R5.cell 1); (have c52 : w5.cell? ⟨w1.heap.size, 2, none⟩ = some (.int .i64 np) := R5.cell 2); (have c53 : w5.cell? ⟨w1.heap.size, 3, none⟩ = some (.int .i64 ni) := R5.cell 3); (have c54 : w5.cell? ⟨w1.heap.size, 4, none⟩ = some (.bool nn) := R5.cell 4)) | (go_at_call 30; (with_reducible refine (HAH.out _).mono ?_); rintro e w6 ⟨rfl, hb6⟩; (have R6 := (R5.alloc _).next hb6); (have l6 := R6.lt); (have c60 : w6.cell? ⟨w1.heap.size, 0, none⟩ = some (.bool nb) := R6.cell 0); (have c61 : w6.cell? ⟨w1.heap.size, 1, none⟩ = some (.string ⟨nd.toArray⟩) := R6.cell 1); (have c62 : w6.cell? ⟨w1.heap.size, 2, none⟩ = some (.int .i64 np) := R6.cell 2); (have c63 : w6.cell? ⟨w1.heap.size, 3, none⟩ = some (.int .i64 ni) := R6.cell 3); (have c64 : w6.cell? ⟨w1.heap.size, 4, none⟩ = some (.bool nn) := R6.cell 4)))
          go_ret
          exact ⟨rfl, hb1.trans (R6.below.mono hb1.size)⟩
        · rw [decide_eq_true (show c2 ≤ 0 by omega)]
          show Calls _ _ _ _ fun e w' => e = .returned (.bool true) ∧ _
          have g2' : c2 ≤ 0 := by omega
          clear g2
          go_enter Tryz.func67, Tryz.ntmps67
          go_wp2_with (first | (go_at_call 105; (with_reducible refine (HS.out _).mono ?_); rintro e w1 ⟨rfl, hb1⟩) | (go_at_call 105; (with_reducible refine (HL.out _).mono ?_); rintro e w3 ⟨rfl, hb3⟩; (have R3 := (Res1.start 55 #[.bool nb, .string ⟨nd.toArray⟩, .int .i64 np, .int .i64 ni, .bool nn] w1).next hb3); (have l3 := R3.lt); (have c30 : w3.cell? ⟨w1.heap.size, 0, none⟩ = some (.bool nb) := R3.cell 0); (have c31 : w3.cell? ⟨w1.heap.size, 1, none⟩ = some (.string ⟨nd.toArray⟩) := R3.cell 1); (have c32 : w3.cell? ⟨w1.heap.size, 2, none⟩ = some (.int .i64 np) := R3.cell 2); (have c33 : w3.cell? ⟨w1.heap.size, 3, none⟩ = some (.int .i64 ni) := R3.cell 3); (have c34 : w3.cell? ⟨w1.heap.size, 4, none⟩ = some (.bool nn) := R3.cell 4)) | (go_at_call 30; (with_reducible refine (HAL.out _).mono ?_); rintro e w4 ⟨rfl, hb4⟩; (have R4 := (R3.alloc _).next hb4); (have l4 := R4.lt); (have c40 : w4.cell? ⟨w1.heap.size, 0, none⟩ = some (.bool nb) := R4.cell 0); (have c41 : w4.cell? ⟨w1.heap.size, 1, none⟩ = some (.string ⟨nd.toArray⟩) := R4.cell 1); (have c42 : w4.cell? ⟨w1.heap.size, 2, none⟩ = some (.int .i64 np) := R4.cell 2); (have c43 : w4.cell? ⟨w1.heap.size, 3, none⟩ = some (.int .i64 ni) := R4.cell 3); (have c44 : w4.cell? ⟨w1.heap.size, 4, none⟩ = some (.bool nn) := R4.cell 4)) | (go_at_call 105; (with_reducible refine (HH.out _).mono ?_); rintro e w5 ⟨rfl, hb5⟩; (have R5 := (R4).next hb5); (have l5 := R5.lt); (have c50 : w5.cell? ⟨w1.heap.size, 0, none⟩ = some (.bool nb) := R5.cell 0); (have c51 : w5.cell? ⟨w1.heap.size, 1, none⟩ = some (.string ⟨nd.toArray⟩) := R5.cell 1); (have c52 : w5.cell? ⟨w1.heap.size, 2, none⟩ = some (.int .i64 np) := R5.cell 2); (have c53 : w5.cell? ⟨w1.heap.size, 3, none⟩ = some (.int .i64 ni) := R5.cell 3); (have c54 : w5.cell? ⟨w1.heap.size, 4, none⟩ = some (.bool nn) := R5.cell 4)) | (go_at_call 30; (with_reducible refine (HAH.out _).mono ?_); rintro e w6 ⟨rfl, hb6⟩; (have R6 := (R5.alloc _).next hb6); (have l6 := R6.lt); (have c60 : w6.cell? ⟨w1.heap.size, 0, none⟩ = some (.bool nb) := R6.cell 0); (have c61 : w6.cell? ⟨w1.heap.size, 1, none⟩ = some (.string ⟨nd.toArray⟩) := R6.cell 1); (have c62 : w6.cell? ⟨w1.heap.size, 2, none⟩ = some (.int .i64 np) := R6.cell 2); (have c63 : w6.cell? ⟨w1.heap.size, 3, none⟩ = some (.int .i64 ni) := R6.cell 3); (have c64 : w6.cell? ⟨w1.heap.size, 4, none⟩ = some (.bool nn) := R6.cell 4)))
          go_ret
          exact ⟨rfl, hb1.trans (R6.below.mono hb1.size)⟩
end Go.Proofs.YtlhcejbimlilaaaGreatDoor
