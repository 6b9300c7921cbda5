/- A range over a string that is UTF-8 gives the scalars that Next gives. Plain. -/
import Derived.Test.YthloijpnbljpeaaUtfC
set_option linter.unusedVariables false
set_option linter.unusedSimpArgs false
namespace Go.Tk
open Go Go.RowKit
theorem get!_lt' {s : ByteArray} {i : Nat} (h : i < s.size) : s.get! i = s[i] := by
  have h' : i < s.data.size := h
  show s.data[i]! = s.data[i]'h'
  exact getElem!_pos s.data i h'
theorem drop_get {s : ByteArray} {pos i : Nat} {r : Int} {n : Nat} (he : encZ r = nums ((s.data.toList.drop pos).take n)) (hi : i < n) (hp : pos + i < s.size) : ((s.get! (pos + i)).toNat : Int) = (encZ r).getD i 0 := by
  have hl : s.data.toList.length = s.size := (Lib.size_eq s).symm ▸ rfl
  rw [he, get!_lt' hp]
  have h1 : pos + i < s.data.toList.length := by omega
  simp only [nums, List.getD_eq_getElem?_getD, List.getElem?_map]
  rw [List.getElem?_take_of_lt hi, List.getElem?_drop, List.getElem?_eq_getElem h1]
  rfl
def decX (x0 x1 x2 x3 : Nat) (p1 p2 p3 : Bool) : Nat × Nat :=
  if x0 < 0x80 then (x0, 1)
  else if x0 / 32 == 6 && (p1 && x1 / 64 == 2) then
    if (x0 % 32) * 64 + x1 % 64 ≥ 0x80 then ((x0 % 32) * 64 + x1 % 64, 2) else (Utf8.runeError, 1)
  else if x0 / 16 == 14 && (p1 && x1 / 64 == 2) && (p2 && x2 / 64 == 2) then
    if (x0 % 16) * 4096 + (x1 % 64) * 64 + x2 % 64 ≥ 0x800 && Utf8.valid (((x0 % 16) * 4096 + (x1 % 64) * 64 + x2 % 64 : Nat) : Int) then ((x0 % 16) * 4096 + (x1 % 64) * 64 + x2 % 64, 3) else (Utf8.runeError, 1)
  else if x0 / 8 == 30 && (p1 && x1 / 64 == 2) && (p2 && x2 / 64 == 2) && (p3 && x3 / 64 == 2) then
    if (x0 % 8) * 262144 + (x1 % 64) * 4096 + (x2 % 64) * 64 + x3 % 64 ≥ 0x10000 && Utf8.valid (((x0 % 8) * 262144 + (x1 % 64) * 4096 + (x2 % 64) * 64 + x3 % 64 : Nat) : Int) then ((x0 % 8) * 262144 + (x1 % 64) * 4096 + (x2 % 64) * 64 + x3 % 64, 4) else (Utf8.runeError, 1)
  else (Utf8.runeError, 1)
theorem decode_decX (s : ByteArray) (i : Nat) : Utf8.decode s i = decX (s.get! (i + 0)).toNat (s.get! (i + 1)).toNat (s.get! (i + 2)).toNat (s.get! (i + 3)).toNat (decide (i + 1 < s.size)) (decide (i + 2 < s.size)) (decide (i + 3 < s.size)) := rfl
theorem decX1 {x0 x1 x2 x3 : Nat} {p1 p2 p3 : Bool} {r : Int} (g0 : (x0 : Int) = r) (a : r < 128) : decX x0 x1 x2 x3 p1 p2 p3 = (r.toNat, 1) := by
  obtain rfl : x0 = r.toNat := by omega
  unfold decX
  rw [if_pos (by omega)]
theorem decX2 {x0 x1 x2 x3 : Nat} {p2 p3 : Bool} {r : Int} (g0 : (x0 : Int) = 192 + r / 64) (g1 : (x1 : Int) = 128 + r % 64) (a : ¬ r < 128) (b : r < 2048) : decX x0 x1 x2 x3 true p2 p3 = (r.toNat, 2) := by
  have e2 : (x1 / 64 == 2) = true := beq_iff_eq.2 (by omega)
  have e3 : (x0 / 32 == 6) = true := beq_iff_eq.2 (by omega)
  have e5 : x0 % 32 * 64 + x1 % 64 = r.toNat := by omega
  unfold decX
  rw [if_neg (by omega), e2, e3, e5]
  simp only [Bool.and_self, if_true]
  rw [if_pos (by omega)]
theorem decX3 {x0 x1 x2 x3 : Nat} {p3 : Bool} {r : Int} (hv : Utf8.valid (r.toNat : Int) = true) (g0 : (x0 : Int) = 224 + r / 4096) (g1 : (x1 : Int) = 128 + r / 64 % 64) (g2 : (x2 : Int) = 128 + r % 64) (b : ¬ r < 2048) (c : r < 65536) : decX x0 x1 x2 x3 true true p3 = (r.toNat, 3) := by
  have e2 : (x1 / 64 == 2) = true := beq_iff_eq.2 (by omega)
  have f2 : (x2 / 64 == 2) = true := beq_iff_eq.2 (by omega)
  have e3 : (x0 / 32 == 6) = false := beq_eq_false_iff_ne.2 (by omega)
  have e4 : (x0 / 16 == 14) = true := beq_iff_eq.2 (by omega)
  have e5 : x0 % 16 * 4096 + x1 % 64 * 64 + x2 % 64 = r.toNat := by omega
  unfold decX
  rw [if_neg (by omega), e2, f2, e3, e4, e5, hv]
  have e6 : decide (r.toNat ≥ 2048) = true := decide_eq_true (by omega)
  rw [if_neg (by decide), if_pos (by decide), if_pos (by rw [e6]; rfl)]
theorem decX4 {x0 x1 x2 x3 : Nat} {r : Int} (hv : Utf8.valid (r.toNat : Int) = true) (g0 : (x0 : Int) = 240 + r / 262144) (g1 : (x1 : Int) = 128 + r / 4096 % 64) (g2 : (x2 : Int) = 128 + r / 64 % 64) (g3 : (x3 : Int) = 128 + r % 64) (c : ¬ r < 65536) (d : r ≤ 1114111) : decX x0 x1 x2 x3 true true true = (r.toNat, 4) := by
  have e2 : (x1 / 64 == 2) = true := beq_iff_eq.2 (by omega)
  have f2 : (x2 / 64 == 2) = true := beq_iff_eq.2 (by omega)
  have j2 : (x3 / 64 == 2) = true := beq_iff_eq.2 (by omega)
  have e3 : (x0 / 32 == 6) = false := beq_eq_false_iff_ne.2 (by omega)
  have e4 : (x0 / 16 == 14) = false := beq_eq_false_iff_ne.2 (by omega)
  have e7 : (x0 / 8 == 30) = true := beq_iff_eq.2 (by omega)
  have e5 : x0 % 8 * 262144 + x1 % 64 * 4096 + x2 % 64 * 64 + x3 % 64 = r.toNat := by omega
  unfold decX
  rw [if_neg (by omega), e2, f2, j2, e3, e4, e7, e5, hv]
  have e6 : decide (r.toNat ≥ 65536) = true := decide_eq_true (by omega)
  rw [if_neg (by decide), if_neg (by decide), if_pos (by decide), if_pos (by rw [e6]; rfl)]
theorem decode_dec (s : ByteArray) (pos : Nat) (h : pos < s.size) (hn : (dec (s.data.toList.drop pos)).2 ≠ 0) :
    Utf8.decode s pos = ((dec (s.data.toList.drop pos)).1.toNat, (dec (s.data.toList.drop pos)).2) := by
  obtain ⟨r, n, hd⟩ : ∃ r n, dec (s.data.toList.drop pos) = (r, n) := ⟨_, _, rfl⟩
  rw [hd] at hn ⊢
  obtain ⟨hr, he, hl⟩ := dec_yes hd hn
  have hlen : (s.data.toList.drop pos).length = s.size - pos := by rw [List.length_drop, ← Lib.size_eq]
  have hnn : n = (encZ r).length := by rw [he, nums_len, List.length_take]; omega
  obtain ⟨s0, s1, s2⟩ := (scalarB_iff r).1 hr
  have hg := fun i (hi : i < n) => drop_get he hi (by omega : pos + i < s.size)
  have hv : Utf8.valid (r.toNat : Int) = true := by
    unfold Utf8.valid
    simp only [Bool.or_eq_true, Bool.and_eq_true, decide_eq_true_eq]
    omega
  show Utf8.decode s pos = (r.toNat, n)
  rw [decode_decX]
  by_cases a : r < 128
  · rw [encZ1 a] at hnn hg
    have hnn : n = 1 := hnn
    subst hnn
    exact decX1 (hg 0 (by omega)) a
  by_cases b : r < 2048
  · rw [encZ2 a b] at hnn hg
    have hnn : n = 2 := hnn
    subst hnn
    rw [decide_eq_true (by omega : pos + 1 < s.size)]
    exact decX2 (hg 0 (by omega)) (hg 1 (by omega)) a b
  by_cases c : r < 65536
  · rw [encZ3 a b c] at hnn hg
    have hnn : n = 3 := hnn
    subst hnn
    rw [decide_eq_true (by omega : pos + 1 < s.size), decide_eq_true (by omega : pos + 2 < s.size)]
    exact decX3 hv (hg 0 (by omega)) (hg 1 (by omega)) (hg 2 (by omega)) b c
  · rw [encZ4 a b c] at hnn hg
    have hnn : n = 4 := hnn
    subst hnn
    rw [decide_eq_true (by omega : pos + 1 < s.size), decide_eq_true (by omega : pos + 2 < s.size), decide_eq_true (by omega : pos + 3 < s.size)]
    exact decX4 hv (hg 0 (by omega)) (hg 1 (by omega)) (hg 2 (by omega)) (hg 3 (by omega)) c s1
end Go.Tk
